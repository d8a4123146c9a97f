/- What the reference's function answers, and the program's: the same. -/
import Derived.Test.YtceeeagdjphbnaaDoorXRSPa
namespace Go.Proofs.YtceeeagdjphbnaaDoor
open Go Vm
set_option linter.unusedVariables false
set_option linter.unusedSimpArgs false
namespace Xs
theorem fuelS : ∃ n, fuel = n + 9 := ⟨fuel - 9, by simp only [fuel]⟩
theorem x_RingOkL (a : Int) (b : List Int) (hb : b.length ≤ 1048576) : ∀ (j i n : Nat), i + j = b.length → j < n →
    ∃ r, L_spec_RingOk_1 n ((a, b), (i : Int)) = some r ∧ L_impl_RingOk_1 n ((a, b), b, (b.length : Int), (i : Int)) = some r
  | 0, i, n + 1, hi, hn => by
    refine ⟨.inl (), ?_, ?_⟩
    · rw [e_L_spec_RingOk_1]
      simp only [decide_eq_false (show ¬ ((i : Int) < (b.length : Int)) by omega), cond_false]
    · rw [e_L_impl_RingOk_1]
      simp only [decide_eq_false (show ¬ ((i : Int) < (b.length : Int)) by omega), cond_false]
  | j + 1, i, n + 1, hi, hn => by
    have hlt : i < b.length := by omega
    have hy : b[i]? = some b[i] := List.getElem?_eq_getElem hlt
    obtain ⟨r, h1, h2⟩ := x_RingOkL a b hb j (i + 1) n (by omega) (by omega)
    rw [show ((i + 1 : Nat) : Int) = (i : Int) + 1 by omega] at h1 h2
    rw [e_L_spec_RingOk_1, e_L_impl_RingOk_1]
    simp only [e_T_impl_isDaemon, decide_eq_true (show ((i : Int) < (b.length : Int)) by omega), cond_true, Int.natCast_nonneg, if_true, Int.toNat_natCast, hy, Option.bind_some, (x_inRange _ _ _).1, (x_inRange _ _ _).2, wrap_ok (n := (i : Int) + 1) (by omega) (by omega)]
    cases hd : decide (1 ≤ b[i] ∧ b[i] ≤ 5) with
    | false => exact ⟨.inr false, by simp, by simp⟩
    | true =>
      simp only [Bool.not_true, cond_false]
      by_cases h0 : 0 < i
      · have hp : b[i - 1]? = some b[i - 1] := List.getElem?_eq_getElem (by omega)
        simp only [decide_eq_true (show (0 : Int) < (i : Int) by omega), cond_true, wrap_ok (n := (i : Int) - 1) (by omega) (by omega), if_pos (show 0 ≤ (i : Int) - 1 by omega), show ((i : Int) - 1).toNat = i - 1 by omega, hp, Option.bind_some, Sum.elim_inl, wrap_ok (n := (i : Int) + 1) (by omega) (by omega)]
        cases decide (b[i] ≤ b[i - 1]) with
        | true => exact ⟨.inr false, rfl, rfl⟩
        | false => exact ⟨r, h1, h2⟩
      · simp only [decide_eq_false (show ¬ (0 : Int) < (i : Int) by omega), cond_false, Option.bind_some, Sum.elim_inl, wrap_ok (n := (i : Int) + 1) (by omega) (by omega)]
        exact ⟨r, h1, h2⟩
theorem x_RingOk (a : Int) (b : List Int) (hb : b.length ≤ 1048576) : ∃ r, T_spec_RingOk (a, b) = some r ∧ T_impl_RingOk (a, b) = some r := by
  obtain ⟨r, h1, h2⟩ := x_RingOkL a b hb b.length 0 fuel (by omega) (by simp only [fuel]; omega)
  rw [show ((0 : Nat) : Int) = 0 by rfl] at h1 h2
  rw [e_T_spec_RingOk, e_T_impl_RingOk]
  simp only [(x_inRange _ _ _).1, (x_inRange _ _ _).2, Option.bind_some]
  cases decide (1 ≤ a ∧ a ≤ 9) with
  | false => exact ⟨false, rfl, rfl⟩
  | true =>
    simp only [Bool.not_true, cond_false, Option.bind_some, Sum.elim_inl]
    cases decide (1 ≤ (b.length : Int) ∧ (b.length : Int) ≤ 5) with
    | false => exact ⟨false, rfl, rfl⟩
    | true =>
      simp only [Bool.not_true, cond_false, h1, h2, Option.bind_some]
      cases r with
      | inl u => exact ⟨true, rfl, rfl⟩
      | inr v => exact ⟨v, rfl, rfl⟩
theorem x_RingsOkL (a : List (Int × List Int)) (ha : a.length ≤ 1048576) (hm : ∀ y ∈ a, y.2.length ≤ 1048576) : ∀ (j i n : Nat), i + j = a.length → j < n →
    ∃ r, L_spec_RingsOk_1 n (a, (i : Int)) = some r ∧ L_impl_RingsOk_1 n (a, a, (a.length : Int), (i : Int)) = some r ∧ (r = .inl a ∨ ∃ v, r = .inr v)
  | 0, i, n + 1, hi, hn => by
    refine ⟨.inl a, ?_, ?_, .inl rfl⟩
    · rw [e_L_spec_RingsOk_1]
      simp only [decide_eq_false (show ¬ ((i : Int) < (a.length : Int)) by omega), cond_false]
    · rw [e_L_impl_RingsOk_1]
      simp only [decide_eq_false (show ¬ ((i : Int) < (a.length : Int)) by omega), cond_false]
  | j + 1, i, n + 1, hi, hn => by
    have hlt : i < a.length := by omega
    have hy : a[i]? = some a[i] := List.getElem?_eq_getElem hlt
    obtain ⟨r, h1, h2, h3⟩ := x_RingsOkL a ha hm j (i + 1) n (by omega) (by omega)
    rw [show ((i + 1 : Nat) : Int) = (i : Int) + 1 by omega] at h1 h2
    obtain ⟨q, q1, q2⟩ := x_RingOk a[i].1 a[i].2 (hm _ (List.getElem_mem hlt))
    rw [e_L_spec_RingsOk_1, e_L_impl_RingsOk_1]
    simp only [decide_eq_true (show ((i : Int) < (a.length : Int)) by omega), cond_true, Int.natCast_nonneg, if_true, Int.toNat_natCast, hy, Option.bind_some, q1, q2, wrap_ok (n := (i : Int) + 1) (by omega) (by omega)]
    cases q with
    | false => exact ⟨.inr false, rfl, rfl, .inr ⟨_, rfl⟩⟩
    | true =>
      simp only [Bool.not_true, cond_false, Option.bind_some, Sum.elim_inl, wrap_ok (n := (i : Int) + 1) (by omega) (by omega)]
      cases (!a[i].1 == (i : Int) + 1) with
      | true => exact ⟨.inr false, rfl, rfl, .inr ⟨_, rfl⟩⟩
      | false => exact ⟨r, h1, h2, h3⟩
theorem x_RingsOk (a : List (Int × List Int)) (ha : a.length ≤ 1048576) (hm : ∀ y ∈ a, y.2.length ≤ 1048576) : ∃ r, T_spec_RingsOk a = some r ∧ T_impl_RingsOk a = some r := by
  obtain ⟨r, h1, h2, h3⟩ := x_RingsOkL a ha hm a.length 0 fuel (by omega) (by simp only [fuel]; omega)
  rw [show ((0 : Nat) : Int) = 0 by rfl] at h1 h2
  rw [e_T_spec_RingsOk, e_T_impl_RingsOk, h1, h2]
  rcases h3 with rfl | ⟨v, rfl⟩
  · simp only [Option.bind_some, Sum.elim_inl, (x_inRange _ _ _).1, (x_inRange _ _ _).2]
    exact ⟨_, rfl, rfl⟩
  · exact ⟨v, rfl, rfl⟩
abbrev DaemonU := Int × Bool × (Int × (Int × List Int) × List (Int × Int × Int × List UInt8) × List Int × List (List UInt8) × Int × Int × Int × Int × Int × Int × Int × Int × Int × List Int) × Int × Int × (Int × List Int) × List (Int × Int × Int × List (Int × Int × Int × List UInt8)) × List (Int × (Int × List Int) × (Int × Int × Int × List UInt8) × List Int)
def dz (i : Int) : DaemonU := (i, false, (0, (0, []), [], [], [], 0, 0, 0, 0, 0, 0, 0, 0, 0, []), 0, 0, (0, []), [], [])
def dzs : List DaemonU := [dz 1, dz 2, dz 3, dz 4, dz 5]
abbrev CallerU := (Int × List UInt8 × (List UInt8 × Bool) × Bool × List (List UInt8)) × (List UInt8 × List (List UInt8) × Bool) × List UInt8 × List (List UInt8)
def cz (i : Int) : CallerU := ((i.tmod 2 + 1, [], ([], false), false, []), ([99] ++ Lib.itoa i, [], false), [], [])
def czs : List CallerU := [cz 1, cz 2, cz 3, cz 4]
abbrev WorldU := List (Int × List Int) × List DaemonU × List (Int × Int × Int × (Int × Int × Int × List UInt8) × (Int × Int × Int × Int × Int × List Int) × Int × Int × Int × List (Int × Int × Int × List UInt8)) × List (Int × (Int × List Int) × (Int × Int × Int × List UInt8) × List Int)
abbrev HallU := WorldU × List CallerU × List (List (List UInt8 × List (List UInt8))) × List Int
def h0 : HallU := (([], [], [], []), [], [], [])
def hz (a : List (Int × List Int)) : HallU := ((a, dzs, [], []), czs, [[], [], [], [], []], [0, 0, 0, 0, 0])
theorem tk_step {a : List UInt8} {i c : Nat} {x : UInt8} {s : List UInt8} (h : a.drop i = x :: s) (hc : c ≤ i) : a.getD i 0 = x ∧ i < a.length ∧ a.drop (i + 1) = s ∧ (a.take (i + 1)).drop c = (a.take i).drop c ++ [x] := by
  have hi : i < a.length := by
    have := congrArg List.length h
    rw [List.length_drop, List.length_cons] at this; omega
  have hx : a[i]? = some x := by
    have := congrArg (fun l => l[0]?) h
    simpa using this
  refine ⟨by rw [List.getD_eq_getElem?_getD, hx]; rfl, hi, ?_, ?_⟩
  · rw [← List.drop_drop, h]; rfl
  · rw [List.take_add_one, hx]
    show (a.take i ++ [x]).drop c = _
    rw [List.drop_append_of_le_length (by rw [List.length_take]; omega)]
theorem l_Lines {a : List UInt8} (ha : a.length ≤ 1048576) : ∀ (s : List UInt8) (i c n : Nat) (out : List (List UInt8)), a.drop i = s → c ≤ i → i + s.length = a.length → out.length ≤ i → s.length < n →
    ∃ c' : Nat, L_spec_l22Lines_1 n (a, out, (c : Int), (i : Int)) = some (.inl (a, out ++ initG 10 ((a.take i).drop c) s, (c' : Int))) ∧ c' ≤ a.length ∧ a.drop c' = lastG 10 ((a.take i).drop c) s
  | [], i, c, n + 1, out, h, hc, hi, ho, hn => by
    refine ⟨c, ?_, by simp at hi; omega, ?_⟩
    · rw [e_L_spec_l22Lines_1]
      simp only [List.length_nil, Nat.add_zero] at hi
      simp only [decide_eq_false (show ¬ ((i : Int) < (a.length : Int)) by omega), cond_false, initG, List.append_nil]
    · simp only [List.length_nil, Nat.add_zero] at hi
      rw [lastG, hi, List.take_length]
  | x :: s, i, c, n + 1, out, h, hc, hi, ho, hn => by
    obtain ⟨t1, t2, t3, t4⟩ := tk_step h hc
    simp only [List.length_cons] at hi hn
    rw [e_L_spec_l22Lines_1]
    simp only [decide_eq_true (show ((i : Int) < (a.length : Int)) by omega), cond_true, Int.natCast_nonneg, if_true, if_pos (show (i : Int) < (a.length : Int) by omega), Int.toNat_natCast, t1]
    by_cases hx : x = 10
    · subst hx
      obtain ⟨c', h1, h2, h3⟩ := l_Lines ha s (i + 1) (i + 1) n (out ++ [(a.take i).drop c]) t3 (Nat.le_refl _) (by omega) (by simp; omega) (by omega)
      have e0 : (a.take (i + 1)).drop (i + 1) = [] := by rw [List.drop_eq_nil_iff]; rw [List.length_take]; omega
      rw [e0] at h1 h3
      rw [show ((i + 1 : Nat) : Int) = (i : Int) + 1 by omega] at h1
      refine ⟨c', ?_, h2, ?_⟩
      · rw [show ((((10 : UInt8).toNat : Nat) : Int) == 10) = true from rfl]
        simp only [cond_true, true_and, if_pos (show (i : Int) ≤ (a.length : Int) by omega), if_pos (show (c : Int) ≤ (i : Int) by omega), if_pos (show (out.length + 1) * 16 ≤ 140737488355328 ∧ out.length + 1 ≤ 9223372036854775807 by omega), Option.bind_some, Sum.elim_inl, List.append_eq, wrap_ok (n := (i : Int) + 1) (by omega) (by omega)]
        rw [h1, initG, if_pos rfl, List.append_assoc]; rfl
      · rw [h3, lastG, if_pos rfl]
    · obtain ⟨c', h1, h2, h3⟩ := l_Lines ha s (i + 1) c n out t3 (by omega) (by omega) (by omega) (by omega)
      rw [show ((i + 1 : Nat) : Int) = (i : Int) + 1 by omega] at h1
      rw [t4] at h1 h3
      have hne : (((x.toNat : Nat) : Int) == 10) = false := beq_eq_false_iff_ne.2 (fun e => hx (by
        have : x.toNat = (10 : UInt8).toNat := by show x.toNat = 10; omega
        exact UInt8.toNat_inj.1 this))
      refine ⟨c', ?_, h2, ?_⟩
      · simp only [hne, cond_false, Option.bind_some, Sum.elim_inl, wrap_ok (n := (i : Int) + 1) (by omega) (by omega)]
        rw [h1, initG, if_neg hx]
      · rw [h3, lastG, if_neg hx]
/-- A script's lines. -/
def linesG (a : List UInt8) : List (List UInt8) := if lastG 10 [] a = [] then initG 10 [] a else splG 10 [] a
theorem initG_len (c : UInt8) (s cur : List UInt8) : (initG c cur s).length ≤ s.length := by
  have h := (splG_len c s cur).1
  rw [splG_il, List.length_append, List.length_singleton] at h; omega
theorem v_Trim (b : List UInt8) (x : UInt8) (hb : b.length ≤ 1048576) : T_strings_TrimSuffix (b ++ [x], ([10] : List UInt8)) = some (if x = 10 then b else b ++ [x]) := by
  have hl : (b ++ [x]).length = b.length + 1 := by simp
  have hw : IntKind.i64.wrap (((b ++ [x]).length : Int) - ((([10] : List UInt8)).length : Int)) = (b.length : Int) := by
    rw [hl, show (([10] : List UInt8)).length = 1 from rfl, wrap_ok (by omega) (by omega)]; omega
  rw [e_T_strings_TrimSuffix, e_T_internal_stringslite_TrimSuffix, e_T_internal_stringslite_HasSuffix]
  rw [hw]
  simp only [hl, show (([10] : List UInt8)).length = 1 from rfl, decide_eq_true (show ((1 : Nat) : Int) ≤ ((b.length + 1 : Nat) : Int) by omega), cond_true, if_pos (show (0 : Int) ≤ (b.length : Int) ∧ (b.length : Int) ≤ ((b.length + 1 : Nat) : Int) by omega), Option.bind_some, Int.toNat_natCast]
  rw [show List.take (b.length + 1) (b ++ [x]) = b ++ [x] from List.take_of_length_le (by simp), List.drop_left, List.drop_zero, List.take_left]
  by_cases hx : x = 10
  · subst hx
    rw [if_pos rfl, show (([10] : List UInt8) == [10]) = true from rfl]; rfl
  · rw [if_neg hx, show (([x] : List UInt8) == [10]) = false from beq_eq_false_iff_ne.2 (by simpa using hx)]; rfl
theorem x_Lines {a : List UInt8} (ha : a.length ≤ 1048576) : T_spec_l22Lines a = some (linesG a) ∧ T_impl_scriptLines a = some (linesG a) := by
  constructor
  · obtain ⟨c', h1, h2, h3⟩ := l_Lines ha a 0 0 fuel [] rfl (Nat.le_refl _) (by omega) (by simp) (by simp only [fuel]; omega)
    rw [show ((0 : Nat) : Int) = 0 from rfl, show (a.take 0).drop 0 = [] from rfl, List.nil_append] at h1
    rw [show (a.take 0).drop 0 = [] from rfl] at h3
    have hl := initG_len 10 a []
    rw [e_T_spec_l22Lines, h1]
    simp only [Option.bind_some, Sum.elim_inl]
    unfold linesG
    by_cases hc : c' < a.length
    · have hne : lastG 10 [] a ≠ [] := by rw [← h3]; intro e; have := congrArg List.length e; rw [List.length_drop, List.length_nil] at this; omega
      simp only [decide_eq_true (show (c' : Int) < (a.length : Int) by omega), cond_true, if_pos (show (0 : Int) ≤ (c' : Int) ∧ (c' : Int) ≤ (a.length : Int) by omega), if_pos (show ((initG 10 [] a).length + 1) * 16 ≤ 140737488355328 ∧ (initG 10 [] a).length + 1 ≤ 9223372036854775807 by omega), Option.bind_some, Sum.elim_inl, Int.toNat_natCast, List.take_length, h3, List.append_eq, if_neg hne, splG_il]
    · have he : lastG 10 [] a = [] := by rw [← h3, List.drop_eq_nil_iff]; omega
      simp only [decide_eq_false (show ¬ (c' : Int) < (a.length : Int) by omega), cond_false, Option.bind_some, Sum.elim_inl, if_pos he]
  · rw [e_T_impl_scriptLines]
    rcases List.eq_nil_or_concat a with rfl | ⟨b, x, rfl⟩
    · rfl
    · rw [List.concat_eq_append] at ha ⊢
      have hb : b.length ≤ 1048576 := by simp at ha; omega
      rw [show ((b ++ [x]) == ([] : List UInt8)) = false from beq_eq_false_iff_ne.2 (by simp), cond_false]
      have ht := v_Trim b x hb
      have hs : T_strings_Split ((if x = 10 then b else b ++ [x]), ([10] : List UInt8)) = some (splG 10 [] (if x = 10 then b else b ++ [x])) := x_Split 10 (by split <;> simp at ha ⊢ <;> omega)
      refine (congrArg (fun o => Option.bind o _) ht).trans ?_
      refine (congrArg (fun o => Option.bind o _) hs).trans ?_
      show some _ = some _
      congr 1
      unfold linesG
      by_cases hx : x = 10
      · subst hx
        have h := splG_snoc 10 b []
        rw [splG_il 10 (b ++ [10])] at h
        have h2 := List.append_inj' h rfl
        rw [if_pos rfl, if_pos (by simpa using h2.2), h2.1]
      · rw [if_neg hx, if_neg (lastG_ne 10 x hx b [])]
/-- A byte of a line. -/
def okB (x : UInt8) : Bool := decide (32 ≤ x.toNat) && decide (x.toNat ≤ 126)
/-- The words of a line. -/
def wordsG (cur s : List UInt8) : List (List UInt8) := (splG 32 cur s).filter (fun p => !p == [])
theorem l_PartsS {a : List UInt8} (ha : a.length ≤ 600) : ∀ (s : List UInt8) (i c n : Nat) (out : List (List UInt8)), a.drop i = s → c ≤ i → i + s.length = a.length → out.length ≤ i → s.length + 1 < n →
    L_spec_PartsOf_1 n (a, out, (c : Int), (i : Int)) = some (bif s.all okB then .inl (out ++ wordsG ((a.take i).drop c) s) else .inr ([], false))
  | [], i, c, n + 2, out, h, hc, hi, ho, hn => by
    simp only [List.length_nil, Nat.add_zero] at hi
    have hcur : (a.take i).drop c = a.drop c := by rw [hi, List.take_length]
    rw [e_L_spec_PartsOf_1]
    simp only [decide_eq_true (show ((i : Int) ≤ (a.length : Int)) by omega), cond_true, decide_eq_false (show ¬ ((i : Int) < (a.length : Int)) by omega), cond_false, Option.bind_some, Sum.elim_inl, List.all_nil, if_true]
    by_cases hlt : c < i
    · have hne : ((!a.drop c == []) : Bool) = true := by
        rw [show (a.drop c == []) = false from beq_eq_false_iff_ne.2 (fun e => by have := congrArg List.length e; rw [List.length_drop, List.length_nil] at this; omega)]; rfl
      simp only [decide_eq_true (show (c : Int) < (i : Int) by omega), cond_true, if_pos (show (0 : Int) ≤ (i : Int) ∧ (i : Int) ≤ (a.length : Int) by omega), Int.toNat_natCast, if_pos (show (0 : Int) ≤ (c : Int) ∧ (c : Int) ≤ (i : Int) by omega), if_pos (show (out.length + 1) * 16 ≤ 140737488355328 ∧ out.length + 1 ≤ 9223372036854775807 by omega), Option.bind_some, Sum.elim_inl, wrap_ok (n := (i : Int) + 1) (by omega) (by omega)]
      rw [e_L_spec_PartsOf_1]
      simp only [decide_eq_false (show ¬ ((i : Int) + 1 ≤ (a.length : Int)) by omega), cond_false]
      rw [hcur, wordsG, splG, List.filter_cons, if_pos hne]; rfl
    · have he : a.drop c = [] := by rw [List.drop_eq_nil_iff]; omega
      simp only [decide_eq_false (show ¬ (c : Int) < (i : Int) by omega), cond_false, Option.bind_some, Sum.elim_inl, wrap_ok (n := (i : Int) + 1) (by omega) (by omega)]
      rw [e_L_spec_PartsOf_1]
      simp only [decide_eq_false (show ¬ ((i : Int) + 1 ≤ (a.length : Int)) by omega), cond_false]
      rw [hcur, he]; simp [wordsG, splG]
  | x :: s, i, c, n + 1, out, h, hc, hi, ho, hn => by
    obtain ⟨t1, t2, t3, t4⟩ := tk_step h hc
    simp only [List.length_cons] at hi hn
    rw [e_L_spec_PartsOf_1]
    simp only [decide_eq_true (show ((i : Int) ≤ (a.length : Int)) by omega), decide_eq_true (show ((i : Int) < (a.length : Int)) by omega), cond_true, Int.natCast_nonneg, if_true, if_pos (show (i : Int) < (a.length : Int) by omega), Int.toNat_natCast, t1, List.all_cons]
    by_cases h1 : x.toNat < 32
    · simp only [decide_eq_true (show ((x.toNat : Nat) : Int) < 32 by omega), cond_true, Option.bind_some, Sum.elim_inl, Sum.elim_inr]
      rw [show okB x = false by unfold okB; rw [decide_eq_false (by omega)]; rfl]; rfl
    simp only [decide_eq_false (show ¬ ((x.toNat : Nat) : Int) < 32 by omega), cond_false, Option.bind_some, Sum.elim_inl]
    by_cases h2 : 126 < x.toNat
    · simp only [decide_eq_true (show (126 : Int) < ((x.toNat : Nat) : Int) by omega), cond_true, Option.bind_some, Sum.elim_inl, Sum.elim_inr]
      rw [show okB x = false by unfold okB; rw [decide_eq_true (show 32 ≤ x.toNat by omega), decide_eq_false (show ¬ x.toNat ≤ 126 by omega)]; rfl]; rfl
    have hok : okB x = true := by unfold okB; rw [decide_eq_true (show 32 ≤ x.toNat by omega), decide_eq_true (show x.toNat ≤ 126 by omega)]; rfl
    simp only [decide_eq_false (show ¬ (126 : Int) < ((x.toNat : Nat) : Int) by omega), cond_false, hok, Bool.true_and, decide_eq_true (show ((i : Int) < (a.length : Int)) by omega), cond_true, Int.natCast_nonneg, if_true, if_pos (show (i : Int) < (a.length : Int) by omega), Int.toNat_natCast, t1, Option.bind_some, Sum.elim_inl]
    by_cases hx : x = 32
    · subst hx
      rw [show ((((32 : UInt8).toNat : Nat) : Int) == 32) = true from rfl]
      have e0 : (a.take (i + 1)).drop (i + 1) = [] := by rw [List.drop_eq_nil_iff, List.length_take]; omega
      have hw : wordsG ((a.take i).drop c) (32 :: s) = (if c < i then [(a.take i).drop c] else []) ++ wordsG [] s := by
        unfold wordsG
        rw [splG, if_pos rfl, List.filter_cons]
        by_cases hlt : c < i
        · have hne : ((!(a.take i).drop c == []) : Bool) = true := by
            rw [show ((a.take i).drop c == []) = false from beq_eq_false_iff_ne.2 (fun e => by have := congrArg List.length e; rw [List.length_drop, List.length_take, List.length_nil] at this; omega)]; rfl
          rw [if_pos hne, if_pos hlt]; rfl
        · have he : (a.take i).drop c = [] := by rw [List.drop_eq_nil_iff, List.length_take]; omega
          rw [he, if_neg hlt, if_neg (by decide)]; rfl
      simp only [Bool.not_true, cond_false]
      by_cases hlt : c < i
      · have ih := l_PartsS ha s (i + 1) (i + 1) n (out ++ [(a.take i).drop c]) t3 (Nat.le_refl _) (by omega) (by simp; omega) (by omega)
        rw [e0, show ((i + 1 : Nat) : Int) = (i : Int) + 1 by omega] at ih
        simp only [decide_eq_true (show (c : Int) < (i : Int) by omega), cond_true, true_and, if_pos (show (i : Int) ≤ (a.length : Int) by omega), if_pos (show (c : Int) ≤ (i : Int) by omega), if_pos (show (out.length + 1) * 16 ≤ 140737488355328 ∧ out.length + 1 ≤ 9223372036854775807 by omega), Option.bind_some, Sum.elim_inl, List.append_eq, wrap_ok (n := (i : Int) + 1) (by omega) (by omega)]
        rw [ih, hw, if_pos hlt, List.append_assoc]
      · have ih := l_PartsS ha s (i + 1) (i + 1) n out t3 (Nat.le_refl _) (by omega) (by omega) (by omega)
        rw [e0, show ((i + 1 : Nat) : Int) = (i : Int) + 1 by omega] at ih
        simp only [decide_eq_false (show ¬ (c : Int) < (i : Int) by omega), cond_false, Option.bind_some, Sum.elim_inl, wrap_ok (n := (i : Int) + 1) (by omega) (by omega)]
        rw [ih, hw, if_neg hlt, List.nil_append]
    · have hne : (((x.toNat : Nat) : Int) == 32) = false := beq_eq_false_iff_ne.2 (fun e => hx (by
        have : x.toNat = (32 : UInt8).toNat := by show x.toNat = 32; omega
        exact UInt8.toNat_inj.1 this))
      have ih := l_PartsS ha s (i + 1) c n out t3 (by omega) (by omega) (by omega) (by omega)
      rw [t4, show ((i + 1 : Nat) : Int) = (i : Int) + 1 by omega] at ih
      simp only [hne, Bool.not_false, cond_true, Option.bind_some, Sum.elim_inl, wrap_ok (n := (i : Int) + 1) (by omega) (by omega)]
      rw [ih, wordsG, wordsG, splG, if_neg hx]
theorem l_PartsI1 {a : List UInt8} (ha : a.length ≤ 600) : ∀ (s : List UInt8) (i n : Nat), a.drop i = s → i + s.length = a.length → s.length < n →
    L_impl_PartsOf_1 n (a, (i : Int)) = some (bif s.all okB then .inl a else .inr ([], false))
  | [], i, n + 1, h, hi, hn => by
    simp only [List.length_nil, Nat.add_zero] at hi
    rw [e_L_impl_PartsOf_1]
    simp only [decide_eq_false (show ¬ ((i : Int) < (a.length : Int)) by omega), cond_false, List.all_nil, cond_true]
  | x :: s, i, n + 1, h, hi, hn => by
    obtain ⟨t1, t2, t3, t4⟩ := tk_step h (Nat.le_refl i)
    simp only [List.length_cons] at hi hn
    have ih := l_PartsI1 ha s (i + 1) n t3 (by omega) (by omega)
    rw [show ((i + 1 : Nat) : Int) = (i : Int) + 1 by omega] at ih
    rw [e_L_impl_PartsOf_1]
    simp only [decide_eq_true (show ((i : Int) < (a.length : Int)) by omega), cond_true, Int.natCast_nonneg, if_true, if_pos (show (i : Int) < (a.length : Int) by omega), Int.toNat_natCast, t1, List.all_cons]
    by_cases h1 : x.toNat < 32
    · simp only [decide_eq_true (show ((x.toNat : Nat) : Int) < 32 by omega), cond_true, Option.bind_some, Sum.elim_inl, Sum.elim_inr]
      rw [show okB x = false by unfold okB; rw [decide_eq_false (by omega)]; rfl]; rfl
    simp only [decide_eq_false (show ¬ ((x.toNat : Nat) : Int) < 32 by omega), cond_false, Option.bind_some, Sum.elim_inl]
    by_cases h2 : 126 < x.toNat
    · simp only [decide_eq_true (show (126 : Int) < ((x.toNat : Nat) : Int) by omega), cond_true, Option.bind_some, Sum.elim_inl, Sum.elim_inr]
      rw [show okB x = false by unfold okB; rw [decide_eq_true (show 32 ≤ x.toNat by omega), decide_eq_false (show ¬ x.toNat ≤ 126 by omega)]; rfl]; rfl
    have hok : okB x = true := by unfold okB; rw [decide_eq_true (show 32 ≤ x.toNat by omega), decide_eq_true (show x.toNat ≤ 126 by omega)]; rfl
    simp only [decide_eq_false (show ¬ (126 : Int) < ((x.toNat : Nat) : Int) by omega), cond_false, hok, Bool.true_and, Option.bind_some, Sum.elim_inl, wrap_ok (n := (i : Int) + 1) (by omega) (by omega)]
    rw [ih]
theorem l_PartsI2 (l : List (List UInt8)) (hl : l.length ≤ 1048577) : ∀ (s : List (List UInt8)) (i n : Nat) (out : List (List UInt8)), l.drop i = s → i + s.length = l.length → out.length ≤ i → s.length < n →
    L_impl_PartsOf_2 n (out, l, (l.length : Int), (i : Int)) = some (.inl (out ++ s.filter (fun p => !p == [])))
  | [], i, n + 1, out, h, hi, ho, hn => by
    simp only [List.length_nil, Nat.add_zero] at hi
    rw [e_L_impl_PartsOf_2]
    simp only [decide_eq_false (show ¬ ((i : Int) < (l.length : Int)) by omega), cond_false, List.filter_nil, List.append_nil]
  | x :: s, i, n + 1, out, h, hi, ho, hn => by
    simp only [List.length_cons] at hi hn
    have hx : l[i]? = some x := by
      have := congrArg (fun l => l[0]?) h
      simpa using this
    have t3 : l.drop (i + 1) = s := by rw [← List.drop_drop, h]; rfl
    rw [e_L_impl_PartsOf_2]
    simp only [decide_eq_true (show ((i : Int) < (l.length : Int)) by omega), cond_true, Int.natCast_nonneg, if_true, Int.toNat_natCast, if_pos (show i < l.length by omega), hx, Option.bind_some]
    by_cases he : x = []
    · subst he
      have ih := l_PartsI2 l hl s (i + 1) n out t3 (by omega) (by omega) (by omega)
      rw [show ((i + 1 : Nat) : Int) = (i : Int) + 1 by omega] at ih
      rw [show (!(([] : List UInt8) == [])) = false from rfl]
      simp only [cond_false, Option.bind_some, Sum.elim_inl, wrap_ok (n := (i : Int) + 1) (by omega) (by omega)]
      rw [ih, List.filter_cons, if_neg (by decide)]
    · have ih := l_PartsI2 l hl s (i + 1) n (out ++ [x]) t3 (by omega) (by simp; omega) (by omega)
      rw [show ((i + 1 : Nat) : Int) = (i : Int) + 1 by omega] at ih
      have hne : (!(x == [])) = true := by rw [beq_eq_false_iff_ne.2 he]; rfl
      simp only [hne, cond_true, if_pos (show (out.length + 1) * 16 ≤ 140737488355328 ∧ out.length + 1 ≤ 9223372036854775807 by omega), Option.bind_some, Sum.elim_inl, List.append_eq, wrap_ok (n := (i : Int) + 1) (by omega) (by omega)]
      rw [ih, List.filter_cons, if_pos hne, List.append_assoc]; rfl
/-- The words of a line, if it is one. -/
def partsG (a : List UInt8) : List (List UInt8) × Bool := if 600 < a.length then ([], false) else bif a.all okB then (if 10 < (wordsG [] a).length then ([], false) else (wordsG [] a, true)) else ([], false)
theorem x_PartsOf (a : List UInt8) : T_spec_PartsOf a = some (partsG a) ∧ T_impl_PartsOf a = some (partsG a) := by
  rw [e_T_spec_PartsOf, e_T_impl_PartsOf]
  unfold partsG
  by_cases h6 : 600 < a.length
  · simp only [decide_eq_true (show (600 : Int) < (a.length : Int) by omega), cond_true, if_pos h6, and_self]
  have ha : a.length ≤ 600 := by omega
  have hS := l_PartsS ha a 0 0 fuel [] rfl (Nat.le_refl _) (by omega) (by simp) (by simp only [fuel]; omega)
  have hI := l_PartsI1 ha a 0 fuel rfl (by omega) (by simp only [fuel]; omega)
  rw [show ((0 : Nat) : Int) = 0 from rfl] at hS hI
  rw [show (a.take 0).drop 0 = [] from rfl, List.nil_append] at hS
  rw [hS, hI]
  simp only [decide_eq_false (show ¬ (600 : Int) < (a.length : Int) by omega), cond_false, if_neg h6]
  cases a.all okB with
  | false => exact ⟨rfl, rfl⟩
  | true =>
    have hl := (splG_len 32 a []).1
    have hJ := l_PartsI2 (splG 32 [] a) (by omega) (splG 32 [] a) 0 fuel [] rfl (by omega) (by simp) (by simp only [fuel]; omega)
    rw [show ((0 : Nat) : Int) = 0 from rfl, List.nil_append] at hJ
    have hSp := x_Split 32 (show a.length ≤ 1048576 by omega)
    have hR : (some (if 10 < (wordsG [] a).length then (([] : List (List UInt8)), false) else (wordsG [] a, true))) = (bif decide (10 < (((wordsG [] a).length : Nat) : Int)) then some ([], false) else some (wordsG [] a, true)) := by
      by_cases h10 : 10 < (wordsG [] a).length
      · rw [decide_eq_true (show (10 : Int) < ((wordsG [] a).length : Int) by omega), cond_true, if_pos h10]
      · rw [decide_eq_false (show ¬ (10 : Int) < ((wordsG [] a).length : Int) by omega), cond_false, if_neg h10]
    simp only [cond_true, Option.bind_some, Sum.elim_inl]
    refine ⟨hR.symm, ?_⟩
    refine (congrArg (fun o => Option.bind o _) hSp).trans ?_
    simp only [Option.bind_some, hJ, Sum.elim_inl]
    exact hR.symm
theorem partsG_ne (a : List UInt8) : ∀ p ∈ (partsG a).1, p ≠ [] ∧ p.length ≤ 600 := by
  intro p hp
  unfold partsG at hp
  by_cases h6 : 600 < a.length
  · rw [if_pos h6] at hp; exact absurd hp (by simp)
  · rw [if_neg h6] at hp
    have h : p ∈ wordsG [] a := by
      cases hk : a.all okB with
      | false => rw [hk] at hp; exact absurd hp (by simp)
      | true =>
        rw [hk, cond_true] at hp
        by_cases h10 : 10 < (wordsG [] a).length
        · rw [if_pos h10] at hp; exact absurd hp (by simp)
        · rw [if_neg h10] at hp; exact hp
    unfold wordsG at h
    rw [List.mem_filter] at h
    refine ⟨fun e => by rw [e] at h; exact absurd h.2 (by decide), ?_⟩
    have := (splG_len 32 a []).2 p h.1
    simp only [List.length_nil] at this; omega
/-- The number of figures. -/
def numG : List UInt8 → Int → Option Int
  | [], n => some n
  | x :: s, n => if x.toNat < 48 ∨ 57 < x.toNat then none else numG s (n * 10 + ((x.toNat : Int) - 48))
def rdG (a : List UInt8) : Int × Bool := if a = [] ∨ 10 < a.length then (0, false) else match numG a 0 with | none => (0, false) | some n => if 1000000000 < n then (0, false) else if Lib.itoa n = a then (n, true) else (0, false)
theorem numG_ok : ∀ (s : List UInt8) (n : Int) (k : Nat), 0 ≤ n → n < (10 : Int) ^ k → ∀ r, numG s n = some r → 0 ≤ r ∧ r < (10 : Int) ^ (k + s.length)
  | [], n, k, h0, hn, r, h => by simp only [numG, Option.some.injEq] at h; subst h; exact ⟨h0, hn⟩
  | x :: s, n, k, h0, hn, r, h => by
    rw [numG] at h
    split at h
    · exact absurd h (by simp)
    · have hp : (10 : Int) ^ (k + 1) = 10 ^ k * 10 := Int.pow_succ ..
      have := numG_ok s _ (k + 1) (by omega) (by omega) r h
      rw [List.length_cons]; rw [show k + (s.length + 1) = k + 1 + s.length by omega]; exact this
theorem p10 {k : Nat} (h : k ≤ 10) : (10 : Int) ^ k ≤ 10000000000 := by
  have : (10 : Nat) ^ k ≤ 10 ^ 10 := Nat.pow_le_pow_right (by decide) h
  have h2 : ((10 ^ k : Nat) : Int) ≤ ((10 ^ 10 : Nat) : Int) := by exact_mod_cast this
  simpa using h2
theorem l_Dec {a : List UInt8} (ha : a.length ≤ 10) : ∀ (s : List UInt8) (i n : Nat) (v : Int), a.drop i = s → i + s.length = a.length → 0 ≤ v → v < (10 : Int) ^ i → s.length < n →
    L_spec_ReadDecimal_1 n (a, v, (i : Int)) = some (match numG s v with | some r => .inl (a, r) | none => .inr (0, false)) ∧
    L_impl_ReadDecimal_1 n (a, v, (i : Int)) = some (match numG s v with | some r => .inl (a, r) | none => .inr (0, false))
  | [], i, n + 1, v, h, hi, h0, hv, hn => by
    simp only [List.length_nil, Nat.add_zero] at hi
    rw [e_L_spec_ReadDecimal_1, e_L_impl_ReadDecimal_1]
    simp only [decide_eq_false (show ¬ ((i : Int) < (a.length : Int)) by omega), cond_false, numG, and_self]
  | x :: s, i, n + 1, v, h, hi, h0, hv, hn => by
    obtain ⟨t1, t2, t3, t4⟩ := tk_step h (Nat.le_refl i)
    simp only [List.length_cons] at hi hn
    rw [e_L_spec_ReadDecimal_1, e_L_impl_ReadDecimal_1]
    simp only [decide_eq_true (show ((i : Int) < (a.length : Int)) by omega), cond_true, Int.natCast_nonneg, if_true, if_pos (show (i : Int) < (a.length : Int) by omega), Int.toNat_natCast, t1, numG]
    by_cases h1 : x.toNat < 48
    · simp only [decide_eq_true (show ((x.toNat : Nat) : Int) < 48 by omega), cond_true, Option.bind_some, Sum.elim_inl, Sum.elim_inr, if_pos (show x.toNat < 48 ∨ 57 < x.toNat from .inl h1), and_self]
    by_cases h2 : 57 < x.toNat
    · simp only [decide_eq_false (show ¬ ((x.toNat : Nat) : Int) < 48 by omega), cond_false, decide_eq_true (show (57 : Int) < ((x.toNat : Nat) : Int) by omega), cond_true, Option.bind_some, Sum.elim_inl, Sum.elim_inr, if_pos (show x.toNat < 48 ∨ 57 < x.toNat from .inr h2), and_self]
    have hp : (10 : Int) ^ (i + 1) = 10 ^ i * 10 := Int.pow_succ ..
    have hq := p10 (show i ≤ 10 by omega)
    have ih := l_Dec ha s (i + 1) n (v * 10 + ((x.toNat : Int) - 48)) t3 (by omega) (by omega) (by omega) (by omega)
    rw [show ((i + 1 : Nat) : Int) = (i : Int) + 1 by omega] at ih
    have hw8 : IntKind.u8.wrap (((x.toNat : Nat) : Int) - 48) = ((x.toNat : Nat) : Int) - 48 := u8w (by omega) (by omega)
    simp only [decide_eq_false (show ¬ ((x.toNat : Nat) : Int) < 48 by omega), cond_false, decide_eq_false (show ¬ (57 : Int) < ((x.toNat : Nat) : Int) by omega), Option.bind_some, Sum.elim_inl, Int.natCast_nonneg, if_true, if_pos (show (i : Int) < (a.length : Int) by omega), Int.toNat_natCast, t1, if_neg (show ¬ (x.toNat < 48 ∨ 57 < x.toNat) by omega), hw8,
      wrap_ok (n := v * 10) (by omega) (by omega), wrap_ok (n := 10 * v) (by omega) (by omega), wrap_ok (n := ((x.toNat : Nat) : Int)) (by omega) (by omega), wrap_ok (n := ((x.toNat : Nat) : Int) - 48) (by omega) (by omega), wrap_ok (n := v * 10 + (((x.toNat : Nat) : Int) - 48)) (by omega) (by omega), wrap_ok (n := 10 * v + ((x.toNat : Nat) : Int)) (by omega) (by omega), wrap_ok (n := 10 * v + ((x.toNat : Nat) : Int) - 48) (by omega) (by omega), wrap_ok (n := (i : Int) + 1) (by omega) (by omega)]
    rw [show 10 * v + ((x.toNat : Nat) : Int) - 48 = v * 10 + (((x.toNat : Nat) : Int) - 48) by omega]
    exact ih
theorem x_ReadDecimal (a : List UInt8) : T_spec_ReadDecimal a = some (rdG a) ∧ T_impl_ReadDecimal a = some (rdG a) := by
  rw [e_T_spec_ReadDecimal, e_T_impl_ReadDecimal]
  unfold rdG
  by_cases h10 : 10 < a.length
  · simp only [decide_eq_true (show (10 : Int) < (a.length : Int) by omega), cond_true, if_pos (show a = [] ∨ 10 < a.length from .inr h10), show (((a.length : Nat) : Int) == 0) = false from beq_eq_false_iff_ne.2 (by omega), cond_false, Option.bind_some, Sum.elim_inl, and_self]
  have ha : a.length ≤ 10 := by omega
  have hD := l_Dec ha a 0 fuel 0 rfl (by omega) (by omega) (by decide) (by simp only [fuel]; omega)
  rw [show ((0 : Nat) : Int) = 0 from rfl] at hD
  rw [hD.1]
  simp only [decide_eq_false (show ¬ (10 : Int) < (a.length : Int) by omega), cond_false]
  by_cases h0 : a = []
  · subst h0
    simp only [numG, if_pos (show ([] : List UInt8) = [] ∨ 10 < ([] : List UInt8).length from .inl rfl), Option.bind_some, Sum.elim_inl, v_Decimal (a := 0) (by omega) (by omega)]
    refine ⟨?_, rfl⟩
    decide +kernel
  · have hl : 0 < a.length := List.length_pos_iff.2 h0
    simp only [show (((a.length : Nat) : Int) == 0) = false from beq_eq_false_iff_ne.2 (by omega), cond_false, Option.bind_some, Sum.elim_inl, hD.2, if_neg (show ¬ (a = [] ∨ 10 < a.length) by simp [h0]; omega)]
    cases hN : numG a 0 with
    | none => exact ⟨rfl, rfl⟩
    | some v =>
      have hb := numG_ok a 0 0 (by omega) (by decide) v hN
      rw [Nat.zero_add] at hb
      have hq := p10 ha
      simp only [Option.bind_some, Sum.elim_inl, v_Decimal (a := v) (by omega) (by omega), v_implDecimal (a := v) (by omega) (by omega)]
      by_cases hv : 1000000000 < v
      · simp only [decide_eq_true hv, cond_true, Option.bind_some, Sum.elim_inl, if_pos hv, and_self]
      · simp only [decide_eq_false hv, cond_false, Option.bind_some, Sum.elim_inl, if_neg hv]
        by_cases he : Lib.itoa v = a
        · rw [if_pos he, he, show (a == a) = true from beq_self_eq_true a]; exact ⟨rfl, rfl⟩
        · rw [if_neg he, beq_eq_false_iff_ne.2 he]; exact ⟨rfl, rfl⟩
/-- The numbers of a ring's line. -/
def comG : List (List UInt8) → List Int → Option (List Int)
  | [], out => some out
  | p :: ps, out => if (rdG p).2 = true then comG ps (out ++ [(rdG p).1]) else none
theorem comG_len : ∀ (ps : List (List UInt8)) (out r : List Int), comG ps out = some r → r.length = out.length + ps.length
  | [], out, r, h => by simp only [comG, Option.some.injEq] at h; subst h; simp
  | p :: ps, out, r, h => by
    rw [comG] at h
    split at h
    · have := comG_len ps _ r h
      rw [List.length_append, List.length_singleton] at this
      rw [List.length_cons]; omega
    · exact absurd h (by simp)
theorem l_Commas {a : List UInt8} (ha : a.length ≤ 600) : ∀ (s : List UInt8) (i c n : Nat) (out : List Int), a.drop i = s → c ≤ i → i + s.length = a.length → out.length ≤ i → s.length + 1 < n →
    L_spec_l22Commas_1 n (a, out, (c : Int), (i : Int)) = some (match comG (splG 44 ((a.take i).drop c) s) out with | some l => .inl l | none => .inr ([], false))
  | [], i, c, n + 2, out, h, hc, hi, ho, hn => by
    simp only [List.length_nil, Nat.add_zero] at hi
    have hcur : (a.take i).drop c = a.drop c := by rw [hi, List.take_length]
    rw [e_L_spec_l22Commas_1]
    simp only [decide_eq_true (show ((i : Int) ≤ (a.length : Int)) by omega), cond_true, decide_eq_false (show ¬ ((i : Int) < (a.length : Int)) by omega), cond_false, Option.bind_some, Sum.elim_inl, if_pos (show (0 : Int) ≤ (i : Int) ∧ (i : Int) ≤ (a.length : Int) by omega), Int.toNat_natCast, if_pos (show (0 : Int) ≤ (c : Int) ∧ (c : Int) ≤ (i : Int) by omega), (x_ReadDecimal _).1, splG, comG]
    cases hr : (rdG ((a.take i).drop c)).2 with
    | false => rfl
    | true =>
      simp only [Bool.not_true, cond_false, if_true, if_pos (show (out.length + 1) * 8 ≤ 140737488355328 ∧ out.length + 1 ≤ 9223372036854775807 by omega), Option.bind_some, Sum.elim_inl, wrap_ok (n := (i : Int) + 1) (by omega) (by omega)]
      rw [e_L_spec_l22Commas_1]
      simp only [decide_eq_false (show ¬ ((i : Int) + 1 ≤ (a.length : Int)) by omega), cond_false]
      rfl
  | x :: s, i, c, n + 1, out, h, hc, hi, ho, hn => by
    obtain ⟨t1, t2, t3, t4⟩ := tk_step h hc
    simp only [List.length_cons] at hi hn
    rw [e_L_spec_l22Commas_1]
    simp only [decide_eq_true (show ((i : Int) ≤ (a.length : Int)) by omega), decide_eq_true (show ((i : Int) < (a.length : Int)) by omega), cond_true, Int.natCast_nonneg, if_true, if_pos (show (i : Int) < (a.length : Int) by omega), Int.toNat_natCast, t1, Option.bind_some, Sum.elim_inl]
    by_cases hx : x = 44
    · subst hx
      rw [show ((((44 : UInt8).toNat : Nat) : Int) == 44) = true from rfl]
      have e0 : (a.take (i + 1)).drop (i + 1) = [] := by rw [List.drop_eq_nil_iff, List.length_take]; omega
      simp only [Bool.not_true, cond_false, true_and, if_pos (show (i : Int) ≤ (a.length : Int) by omega), if_pos (show (c : Int) ≤ (i : Int) by omega), (x_ReadDecimal _).1, Option.bind_some, splG, if_true, comG]
      cases hr : (rdG ((a.take i).drop c)).2 with
      | false => rfl
      | true =>
        have ih := l_Commas ha s (i + 1) (i + 1) n (out ++ [(rdG ((a.take i).drop c)).1]) t3 (Nat.le_refl _) (by omega) (by simp; omega) (by omega)
        rw [e0, show ((i + 1 : Nat) : Int) = (i : Int) + 1 by omega] at ih
        simp only [Bool.not_true, cond_false, if_true, if_pos (show (out.length + 1) * 8 ≤ 140737488355328 ∧ out.length + 1 ≤ 9223372036854775807 by omega), Option.bind_some, Sum.elim_inl, List.append_eq, wrap_ok (n := (i : Int) + 1) (by omega) (by omega)]
        exact ih
    · have hne : (((x.toNat : Nat) : Int) == 44) = false := beq_eq_false_iff_ne.2 (fun e => hx (by
        have : x.toNat = (44 : UInt8).toNat := by show x.toNat = 44; omega
        exact UInt8.toNat_inj.1 this))
      have ih := l_Commas ha s (i + 1) c n out t3 (by omega) (by omega) (by omega) (by omega)
      rw [t4, show ((i + 1 : Nat) : Int) = (i : Int) + 1 by omega] at ih
      simp only [hne, Bool.not_false, cond_true, Option.bind_some, Sum.elim_inl, wrap_ok (n := (i : Int) + 1) (by omega) (by omega), splG, if_neg hx]
      exact ih
theorem l_RingI (id : Int) (l : List (List UInt8)) (hl : l.length ≤ 1048577) : ∀ (s : List (List UInt8)) (i n : Nat) (out : List Int), l.drop i = s → i + s.length = l.length → out.length ≤ i → s.length < n →
    L_impl_readRing_1 n ((0, []), (id, out), l, (l.length : Int), (i : Int)) = some (match comG s out with | some r => .inl ((0, []), id, r) | none => .inr ((0, []), false))
  | [], i, n + 1, out, h, hi, ho, hn => by
    simp only [List.length_nil, Nat.add_zero] at hi
    rw [e_L_impl_readRing_1]
    simp only [decide_eq_false (show ¬ ((i : Int) < (l.length : Int)) by omega), cond_false, comG]
  | x :: s, i, n + 1, out, h, hi, ho, hn => by
    simp only [List.length_cons] at hi hn
    have hx : l[i]? = some x := by
      have := congrArg (fun l => l[0]?) h
      simpa using this
    have t3 : l.drop (i + 1) = s := by rw [← List.drop_drop, h]; rfl
    rw [e_L_impl_readRing_1]
    simp only [decide_eq_true (show ((i : Int) < (l.length : Int)) by omega), cond_true, Int.natCast_nonneg, if_true, Int.toNat_natCast, if_pos (show i < l.length by omega), hx, Option.bind_some, (x_ReadDecimal _).2, comG]
    cases hr : (rdG x).2 with
    | false => rfl
    | true =>
      have ih := l_RingI id l hl s (i + 1) n (out ++ [(rdG x).1]) t3 (by omega) (by simp; omega) (by omega)
      rw [show ((i + 1 : Nat) : Int) = (i : Int) + 1 by omega] at ih
      simp only [Bool.not_true, cond_false, if_true, if_pos (show (out.length + 1) * 8 ≤ 140737488355328 ∧ out.length + 1 ≤ 9223372036854775807 by omega), List.append_eq, wrap_ok (n := (i : Int) + 1) (by omega) (by omega)]
      exact ih
theorem x_Commas {a : List UInt8} (ha : a.length ≤ 600) : T_spec_l22Commas a = some (match comG (splG 44 [] a) [] with | some l => (l, true) | none => ([], false)) := by
  have h := l_Commas ha a 0 0 fuel [] rfl (Nat.le_refl _) (by omega) (by simp) (by simp only [fuel]; omega)
  rw [show ((0 : Nat) : Int) = 0 from rfl, show (a.take 0).drop 0 = [] from rfl] at h
  rw [e_T_spec_l22Commas, h]
  cases comG (splG 44 [] a) [] <;> rfl
theorem x_readRing (id : Int) {w a : List UInt8} (ha : a.length ≤ 600) : T_impl_readRing (id, [w, a]) = some (match comG (splG 44 [] a) [] with | some l => ((id, l), true) | none => ((0, []), false)) := by
  have hl := (splG_len 44 a []).1
  have h := l_RingI id (splG 44 [] a) (by omega) (splG 44 [] a) 0 fuel [] rfl (by omega) (by simp) (by simp only [fuel]; omega)
  rw [show ((0 : Nat) : Int) = 0 from rfl] at h
  have hSp := x_Split 44 (show a.length ≤ 1048576 by omega)
  rw [e_T_impl_readRing]
  refine (congrArg (fun o => Option.bind o _) hSp).trans ?_
  simp only [Option.bind_some, h]
  cases comG (splG 44 [] a) [] <;> rfl
theorem x_readRing' (id : Int) {p : List (List UInt8)} (hp : p.length ≠ 2) : T_impl_readRing (id, p) = some ((0, []), false) := by
  rw [e_T_impl_readRing, show (((p.length : Nat) : Int) == 2) = false from beq_eq_false_iff_ne.2 (by omega)]; rfl
end Xs
end Go.Proofs.YtceeeagdjphbnaaDoor
