/- What the reference's function answers, and the program's: the same. -/
import Derived.Test.YtjeikneboeallaaGreatDoorXOwnPa
namespace Go.Proofs.YtjeikneboeallaaGreatDoor
open Go Vm
set_option linter.unusedVariables false
set_option linter.unusedSimpArgs false
namespace Xs
abbrev StrT := List UInt8
def once (a b l : List StrT) (s : StrT) : Bool := ((a.count s : Int) == 1) && ((b.count s : Int) == 1) && ((l.count s : Int) == 1)
def plcF (s : StrT) : List StrT → Nat → Int
  | [], _ => -1
  | y :: ys, i => bif y == s then (i : Int) else plcF s ys (i + 1)
def plc (b : List StrT) (s : StrT) : Int := plcF s b 0
theorem plcF_le {s : StrT} : ∀ {b : List StrT} {i j : Nat}, b[j]? = some s → plcF s b i ≤ (i + j : Nat) ∧ (i : Int) ≤ plcF s b i ∧ b[(plcF s b i - i).toNat]? = some s
  | [], i, j, h => by simp at h
  | y :: ys, i, 0, h => by
    simp only [List.getElem?_cons_zero, Option.some.injEq] at h
    subst h
    simp only [plcF, beq_self_eq_true, cond_true]
    refine ⟨by omega, by omega, ?_⟩
    simp
  | y :: ys, i, j + 1, h => by
    simp only [List.getElem?_cons_succ] at h
    simp only [plcF]
    cases hy : y == s
    · obtain ⟨h1, h2, h3⟩ := plcF_le (i := i + 1) h
      simp only [cond_false]
      refine ⟨by omega, by omega, ?_⟩
      have : (plcF s ys (i + 1) - (i : Int)).toNat = (plcF s ys (i + 1) - ((i + 1 : Nat) : Int)).toNat + 1 := by omega
      rw [this, List.getElem?_cons_succ]; exact h3
    · simp only [cond_true]
      have := eq_of_beq hy
      subst this
      exact ⟨by omega, by omega, by simp⟩
theorem plc_le {s : StrT} {b : List StrT} {j : Nat} (h : b[j]? = some s) : plc b s ≤ j ∧ 0 ≤ plc b s ∧ b[(plc b s).toNat]? = some s := by
  have := plcF_le (i := 0) h
  simpa [plc] using this
theorem one_at {s : StrT} : ∀ {b : List StrT} {i j : Nat}, b.count s = 1 → b[i]? = some s → b[j]? = some s → i = j
  | [], i, j, h, _, _ => by simp at h
  | y :: ys, i, j, h, hi, hj => by
    by_cases hy : y = s
    · subst hy
      have h0 : ys.count y = 0 := by simpa using h
      have hn : ∀ k : Nat, ys[k]? ≠ some y := fun k hk => (List.count_eq_zero.1 h0) (List.mem_of_getElem? hk)
      cases i with
      | zero => cases j with
        | zero => rfl
        | succ j => exact absurd (by simpa using hj) (hn j)
      | succ i => exact absurd (by simpa using hi) (hn i)
    · have h1 : ys.count s = 1 := by rwa [List.count_cons_of_ne (by simpa using hy)] at h
      cases i with
      | zero => simp at hi; exact absurd hi hy
      | succ i => cases j with
        | zero => simp at hj; exact absurd hj hy
        | succ j => have := one_at (i := i) (j := j) h1 (by simpa using hi) (by simpa using hj); omega
theorem once_count {a b l : List StrT} {s : StrT} (h : once a b l s = true) : a.count s = 1 ∧ b.count s = 1 ∧ l.count s = 1 := by
  simp only [once, Bool.and_eq_true, beq_iff_eq] at h
  omega
theorem once_comm {a b l : List StrT} : once b a l = once a b l := by
  funext s; simp only [once]; rw [Bool.and_comm ((b.count s : Int) == 1)]
def pairB (a b l : List StrT) : Prop := a.Pairwise (fun s t => once a b l s = true → once a b l t = true → ¬ plc b t < plc b s)
theorem pair_iff (a b l : List StrT) : pairB a b l ↔ a.filter (once a b l) = b.filter (once b a l) := by
  rw [once_comm (a := a) (b := b)]
  have hB : (b.filter (once a b l)).Pairwise (fun s t => plc b s ≤ plc b t) := by
    rw [List.pairwise_filter, List.pairwise_iff_getElem]
    intro i j hi hj hij h1 h2
    have e1 := plc_le (List.getElem?_eq_getElem hi)
    have e2 := plc_le (List.getElem?_eq_getElem hj)
    have := one_at (once_count h2).2.1 e2.2.2 (List.getElem?_eq_getElem hj)
    omega
  have hA : pairB a b l ↔ (a.filter (once a b l)).Pairwise (fun s t => plc b s ≤ plc b t) := by
    rw [List.pairwise_filter, pairB]
    constructor
    · intro h; exact h.imp (fun h h1 h2 => by have := h h1 h2; omega)
    · intro h; exact h.imp (fun h h1 h2 => by have := h h1 h2; omega)
  rw [hA]
  constructor
  · intro h
    refine List.Perm.eq_of_pairwise (le := fun s t => plc b s ≤ plc b t) ?_ h hB ?_
    · intro s t hs ht h1 h2
      rw [List.mem_filter] at hs ht
      have m1 : s ∈ b := List.count_pos_iff.1 (by rw [(once_count hs.2).2.1]; exact Nat.one_pos)
      obtain ⟨i, hi⟩ := List.mem_iff_getElem?.1 m1
      obtain ⟨j, hj⟩ := List.mem_iff_getElem?.1 ht.1
      have e1 := plc_le hi
      have e2 := plc_le hj
      have : (plc b s) = plc b t := by omega
      rw [this] at e1
      exact Option.some.inj (e1.2.2.symm.trans e2.2.2)
    · rw [List.perm_iff_count]
      intro s
      by_cases hs : once a b l s = true
      · rw [List.count_filter hs, List.count_filter hs, (once_count hs).1, (once_count hs).2.1]
      · rw [List.count_eq_zero.2 (fun h => hs (List.mem_filter.1 h).2), List.count_eq_zero.2 (fun h => hs (List.mem_filter.1 h).2)]
  · intro h; rw [h]; exact hB
theorem fold_cnt (s : StrT) : ∀ (l : List StrT) (k : Int), 0 ≤ k → k + l.length ≤ 9223372036854775807 → l.foldl (fun c y => bif y == s then IntKind.i64.wrap (c + 1) else c) k = k + (l.count s : Int)
  | [], k, _, _ => by simp
  | y :: l, k, h1, h2 => by
    simp only [List.length_cons] at h2
    simp only [List.foldl_cons, List.count_cons]
    cases y == s
    · rw [cond_false, fold_cnt s l k h1 (by omega)]; simp
    · rw [cond_true, wrap_ok (by omega) (by omega), fold_cnt s l (k + 1) (by omega) (by omega)]; simp; omega
theorem runL_plc (s : StrT) : ∀ (l : List StrT) (k : Nat), (Sum.elim (fun _ => (-1 : Int)) (fun r => r) (runL (fun i y (_ : Unit) => bif y == s then (.inr (i : Int) : Unit ⊕ Int) else .inl ()) k l ())) = plcF s l k
  | [], _ => rfl
  | y :: l, k => by
    simp only [runL, plcF]
    cases y == s
    · simpa using runL_plc s l (k + 1)
    · rfl
def badB (a b l : List StrT) (s t : StrT) : Bool := once a b l s && once a b l t && decide (plc b t < plc b s)
theorem runL_pairs {α : Type} (p : α → α → Bool) (a : List α) : ∀ (l l1 : List α), a = l1 ++ l → l1.Pairwise (fun x y => p x y = true) →
    (a.Pairwise (fun x y => p x y = true) ∧ runL (fun i y (_ : Unit) => bif (a.take i).all (fun x => p x y) then (.inl () : Unit ⊕ Bool) else .inr false) l1.length l () = .inl ()) ∨
    (¬ a.Pairwise (fun x y => p x y = true) ∧ runL (fun i y (_ : Unit) => bif (a.take i).all (fun x => p x y) then (.inl () : Unit ⊕ Bool) else .inr false) l1.length l () = .inr false)
  | [], l1, h, h1 => by rw [List.append_nil] at h; subst h; exact .inl ⟨h1, rfl⟩
  | y :: l, l1, h, h1 => by
    have ht : a.take l1.length = l1 := by rw [h]; simp
    simp only [runL, ht]
    by_cases hp : l1.all (fun x => p x y) = true
    · simp only [hp, cond_true, Sum.elim_inl]
      have := runL_pairs p a l (l1 ++ [y]) (by rw [h]; simp) (by
        rw [List.pairwise_append]
        refine ⟨h1, by simp, fun x hx z hz => ?_⟩
        simp only [List.mem_singleton] at hz
        subst hz
        exact List.all_eq_true.1 hp x hx)
      rwa [List.length_append, List.length_singleton] at this
    · have hf : l1.all (fun x => p x y) = false := by simpa using hp
      simp only [hf, cond_false, Sum.elim_inr]
      refine .inr ⟨fun hc => hp ?_, trivial⟩
      rw [h, List.pairwise_append] at hc
      exact List.all_eq_true.2 fun x hx => hc.2.2 x hx y (by simp)
abbrev EventT := Int × (Int × List Int) × (Int × Int × Int × List UInt8) × List Int
def textL (l : List EventT) : List StrT := l.filterMap (fun y => bif y.1 == 1 then some y.2.2.1.2.2.2 else none)
theorem textL_len (a : List EventT) : (textL a).length ≤ a.length := List.length_filterMap_le _ _
theorem x_Concat {a : List (List StrT)} (h2 : a.length ≤ 2) (h : ∀ y ∈ a, y.length ≤ 1048576) : T_slices_Concat___string_string_ a = some a.flatten := by
  rw [e_T_slices_Concat___string_string_]
  obtain ⟨s', h1, h3⟩ := loop_all (L := L_slices_Concat___string_string__1) a (fun (s : Int) i => (a, s, a, (a.length : Int), i)) (fun s => (a, s)) (fun i s => 0 ≤ s ∧ s ≤ i * 1048576) (fun i y s hy hi hs => by
    have hl := h y (List.mem_of_getElem? hy)
    refine ⟨s + y.length, ⟨by omega, by omega⟩, fun n => ?_⟩
    rw [e_L_slices_Concat___string_string__1]
    simp only [show ((i : Int) < (a.length : Int)) by omega, decide_true, cond_true, Int.natCast_nonneg, if_true, Int.toNat_natCast, hy, Option.bind_some, wrap_ok (n := s + (y.length : Int)) (by omega) (by omega), show ¬ (s + (y.length : Int) < 0) by omega, decide_false, cond_false, wrap_ok (n := (i : Int) + 1) (by omega) (by omega)]) (fun n s hs => by rw [e_L_slices_Concat___string_string__1]; simp) (by rw [maxLen_eq]; omega) 0 (by simp)
  have hg : T_slices_Grow___string_string_ ([], s') = some [] := by
    unfold T_slices_Grow___string_string_
    simp only
    rw [if_pos ⟨by omega, by omega⟩]
  obtain ⟨s2, h4, h5⟩ := loop_all (L := L_slices_Concat___string_string__2) a (fun (s : List StrT) i => (s, a, (a.length : Int), i)) (fun s => s) (fun i s => s = (a.take i).flatten ∧ s.length ≤ i * 1048576) (fun i y s hy hi hs => by
    have hl := h y (List.mem_of_getElem? hy)
    refine ⟨s ++ y, ⟨by rw [hs.1, List.take_add_one, hy]; simp, by rw [List.length_append]; omega⟩, fun n => ?_⟩
    have hc1 : (s.length + y.length) * 16 ≤ 140737488355328 := by omega
    have hc2 : s.length + y.length ≤ 9223372036854775807 := by omega
    rw [e_L_slices_Concat___string_string__2]
    simp only [show ((i : Int) < (a.length : Int)) by omega, decide_true, cond_true, Int.natCast_nonneg, if_true, Int.toNat_natCast, hy, Option.bind_some, hc1, hc2, and_self, List.append_eq, wrap_ok (n := (i : Int) + 1) (by omega) (by omega)]) (fun n s hs => by rw [e_L_slices_Concat___string_string__2]; simp) (by rw [maxLen_eq]; omega) [] (by simp)
  rw [h3]
  simp only [Option.bind_some, Sum.elim_inl, hg, h5]
  rw [h4.1]; simp
abbrev DaemonT := Int × Bool × (Int × (Int × List Int) × List (Int × Int × Int × List UInt8) × List Int × List (List UInt8) × Int × Int × Int × Int × Int × Int × Int × Int × Int × List Int) × Int × Int × (Int × List Int) × List (Int × Int × Int × List (Int × Int × Int × List UInt8)) × List EventT
abbrev CallerT := (Int × List UInt8 × (List UInt8 × Bool) × Bool × List (List UInt8)) × (List UInt8 × List (List UInt8) × Bool) × List UInt8 × List (List UInt8)
def heardL (e : List CallerT) (i : Nat) : List StrT := match e[i]? with
  | some y => y.2.2.2 ++ y.2.1.2.1
  | none => []
def logL (b : List DaemonT) (d : Int) : List StrT := if 1 ≤ d ∧ d ≤ b.length then (match b[(d - 1).toNat]? with | some y => textL y.2.2.2.2.2.2.2 | none => []) else []
def SmC (e : List CallerT) : Prop := e.length ≤ 1048576 ∧ ∀ y ∈ e, y.2.2.2.length ≤ 1048576 ∧ y.2.1.2.1.length ≤ 1048576
def SmD (b : List DaemonT) : Prop := b.length ≤ 1048576 ∧ ∀ y ∈ b, List.length y.2.2.2.2.2.2.2 ≤ 1048576 ∧ ∀ z ∈ y.2.2.2.2.2.2.2, z.2.1.2.length ≤ 1048576 ∧ z.2.2.2.length ≤ 1048576
theorem heard_len {e : List CallerT} (h : SmC e) (i : Nat) : (heardL e i).length ≤ 4194304 := by
  unfold heardL
  split
  · rename_i y hy
    have := h.2 y (List.mem_of_getElem? hy)
    rw [List.length_append]; omega
  · simp
theorem x_HeardS {a : List (Int × List Int)} {b : List DaemonT} {c : List (Int × Int × Int × (Int × Int × Int × List UInt8) × (Int × Int × Int × Int × Int × List Int) × Int × Int × Int × List (Int × Int × Int × List UInt8))} {d : List EventT} {e : List CallerT} {f : List (List (List UInt8 × List (List UInt8)))} {g : List Int} {i : Nat} (h : SmC e) (hi : i < e.length) :
    T_spec_Heard (((a, b, c, d), e, f, g), IntKind.i64.wrap ((i : Int) + 1)) = some (heardL e i) := by
  obtain ⟨hl, hc⟩ := h
  have hy : e[i]? = some e[i] := List.getElem?_eq_getElem hi
  obtain ⟨h1, h2⟩ := hc e[i] (List.getElem_mem hi)
  rw [wrap_ok (by omega) (by omega), e_T_spec_Heard, (x_inRange _ _ _).1]
  have hw : IntKind.i64.wrap ((i : Int) + 1 - 1) = (i : Int) := by rw [wrap_ok (by omega) (by omega)]; omega
  rw [heardL, hy]
  generalize e[i] = y at h1 h2 hy
  simp only [show (1 : Int) ≤ (i : Int) + 1 ∧ (i : Int) + 1 ≤ (e.length : Int) by omega, and_self, decide_true, Option.bind_some, Bool.not_true, cond_false, hw, Int.natCast_nonneg, if_true, Int.toNat_natCast, hy,
    show (0 + y.2.2.2.length) * 16 ≤ 140737488355328 by omega, show 0 + y.2.2.2.length ≤ 9223372036854775807 by omega, show (y.2.2.2.length + y.2.1.2.1.length) * 16 ≤ 140737488355328 by omega, show y.2.2.2.length + y.2.1.2.1.length ≤ 9223372036854775807 by omega, List.append_eq]
theorem x_HeardI {a : List (Int × List Int)} {b : List DaemonT} {c : List (Int × Int × Int × (Int × Int × Int × List UInt8) × (Int × Int × Int × Int × Int × List Int) × Int × Int × Int × List (Int × Int × Int × List UInt8))} {d : List EventT} {e : List CallerT} {f : List (List (List UInt8 × List (List UInt8)))} {g : List Int} {i : Nat} (h : SmC e) (hi : i < e.length) :
    T_impl_Heard (((a, b, c, d), e, f, g), IntKind.i64.wrap ((i : Int) + 1)) = some (heardL e i) := by
  obtain ⟨hl, hc⟩ := h
  have hy : e[i]? = some e[i] := List.getElem?_eq_getElem hi
  obtain ⟨h1, h2⟩ := hc e[i] (List.getElem_mem hi)
  rw [wrap_ok (by omega) (by omega), e_T_impl_Heard, (x_inRange _ _ _).2]
  have hw : IntKind.i64.wrap ((i : Int) + 1 - 1) = (i : Int) := by rw [wrap_ok (by omega) (by omega)]; omega
  rw [heardL, hy]
  generalize e[i] = y at h1 h2 hy
  have hcc : T_slices_Concat___string_string_ [y.2.2.2, y.2.1.2.1] = some (y.2.2.2 ++ y.2.1.2.1) := by
    rw [x_Concat (by simp) (by simp only [List.mem_cons, List.not_mem_nil, or_false]; rintro z (rfl | rfl) <;> assumption)]; simp
  simp only [show (1 : Int) ≤ (i : Int) + 1 ∧ (i : Int) + 1 ≤ (e.length : Int) by omega, and_self, decide_true, Option.bind_some, Bool.not_true, cond_false, hw, Int.natCast_nonneg, if_true, Int.toNat_natCast, hy, hcc]
theorem log_len {b : List DaemonT} (h : SmD b) (d : Int) : (logL b d).length ≤ 4194304 := by
  unfold logL
  split
  · split
    · rename_i y hy
      have := (h.2 y (List.mem_of_getElem? hy)).1
      have := textL_len y.2.2.2.2.2.2.2
      omega
    · simp
  · simp
def badH (b : List DaemonT) (e : List CallerT) (i k : Nat) (y z : CallerT) : Bool :=
  y.1.1 == z.1.1 && !((heardL e i).filter (once (heardL e i) (heardL e k) (logL b y.1.1)) == (heardL e k).filter (once (heardL e k) (heardL e i) (logL b y.1.1)))
theorem once_nil {a b : List StrT} : once a b [] = fun _ => false := by
  funext s; simp [once]
theorem filt_none (l : List StrT) : l.filter (fun _ => false) = [] := by
  simp
def stI (b : List DaemonT) (e : List CallerT) (i : Nat) (y : CallerT) (k : Nat) (z : CallerT) (_ : Unit) : Unit ⊕ Bool := bif badH b e i k y z then .inr false else .inl ()
def stO (b : List DaemonT) (e : List CallerT) (i : Nat) (y : CallerT) (_ : Unit) : Unit ⊕ Bool := runL (stI b e i y) 0 (e.take i) ()
abbrev RingE (o : Bool) : ET := .pair (.int .i64) (.sl o (.int .i64))
abbrev ItemE : ET := .pair (.int .i64) (.pair (.int .i64) (.pair (.int .i64) .str))
abbrev TokE (o : Bool) : ET := .pair (.int .i64) (.pair (.int .i64) (.pair (.int .i64) (.pair (.int .i64) (.pair (.int .i64) (.sl o (.int .i64))))))
abbrev MateE (o : Bool) : ET := .pair (.int .i64) (.pair (RingE o) (.pair (.sl o ItemE) (.pair (.sl o (.int .i64)) (.pair (.sl o .str) (.pair (.int .i64) (.pair (.int .i64) (.pair (.int .i64) (.pair (.int .i64) (TokE o)))))))))
abbrev BundleE (o : Bool) : ET := .pair (.int .i64) (.pair (.int .i64) (.pair (.int .i64) (.sl o ItemE)))
abbrev EventE (o : Bool) : ET := .pair (.int .i64) (.pair (RingE o) (.pair ItemE (.sl o (.int .i64))))
abbrev DaemonE (o : Bool) : ET := .pair (.int .i64) (.pair .bool (.pair (MateE o) (.pair (.int .i64) (.pair (.int .i64) (.pair (RingE o) (.pair (.sl o (BundleE o)) (.sl o (EventE o))))))))
abbrev LetterE (o : Bool) : ET := .pair (.int .i64) (.pair (.int .i64) (.pair (.int .i64) (.pair ItemE (.pair (TokE o) (BundleE o)))))
abbrev WorldE (o : Bool) : ET := .pair (.sl o (RingE o)) (.pair (.sl o (DaemonE o)) (.pair (.sl o (LetterE o)) (.sl o (EventE o))))
abbrev CallerE (o : Bool) : ET := .pair (.pair (.int .i64) (.pair .str (.pair (.pair .str .bool) (.pair .bool (.sl o .str))))) (.pair (.pair .str (.pair (.sl o .str) .bool)) (.pair .str (.sl o .str)))
abbrev HallE (o : Bool) : ET := .pair (WorldE o) (.pair (.sl o (CallerE o)) (.pair (.sl o (.sl o (.pair .str (.sl o .str)))) (.sl o (.int .i64))))
theorem pn_same (d : Int) {t : List UInt8} (ht : t.length ≤ 1048576) : ∃ r, T_spec_PrivateName (d, t) = some r ∧ T_impl_PrivateName (d, t) = some r ∧ (t = [] → r = []) := by
  obtain ⟨b, n1, n2⟩ := x_NameOk (a := t) (by rw [maxLen_eq]; omega)
  obtain ⟨r, h1, h2, h3⟩ := x_PN d ht
  refine ⟨r, ?_, h1, fun e => ?_⟩
  · rw [e_T_spec_PrivateName, (x_inRange _ _ _).1]
    by_cases hd : 1 ≤ d ∧ d ≤ 9
    · cases b with
      | false =>
        have hr : r = [] := by
          rcases h2 with h2 | ⟨_, h2⟩
          · exact h2
          · rw [n2] at h2; cases h2
        subst hr
        simp only [hd, and_self, decide_true, Option.bind_some, Bool.not_true, cond_false, n1, Bool.not_false, Sum.elim_inl, cond_true]
      | true =>
        have hr := h3 hd n2
        obtain ⟨k, rfl⟩ := Int.eq_ofNat_of_zero_le (show 0 ≤ d by omega)
        have hi : Lib.itoa (k : Int) = [UInt8.ofNat (48 + k)] := itoa_one (by omega)
        simp only [hd, and_self, decide_true, Option.bind_some, Bool.not_true, cond_false, n1, Sum.elim_inl, v_Decimal (a := (k : Int)) (by omega) (by omega), hi]
        rw [if_neg (by simp only [List.length_cons, List.length_nil]; omega), if_neg (by simp only [List.length_append, List.length_cons, List.length_nil]; omega), if_neg (by simp only [List.length_append, List.length_cons, List.length_nil]; omega)]
        rw [hr]; rfl
    · have hr : r = [] := by
        rcases h2 with h2 | ⟨h2, _⟩
        · exact h2
        · exact absurd h2 hd
      subst hr
      simp only [hd, decide_false, Option.bind_some, Bool.not_false, cond_true, Sum.elim_inl]
  · subst e
    rcases h2 with h2 | ⟨_, h2⟩
    · exact h2
    · have := nm_pos (t := []) (by rw [n1]; rw [n2] at h2; exact h2)
      simp at this
noncomputable def readW (t : List UInt8) : (Int × List UInt8 × List (List UInt8) × List UInt8) × Bool := (T_spec_ReadWord t).getD ((0, [], [], []), false)
theorem readW_v {t : List UInt8} (ht : t.length ≤ 1048576) : T_spec_ReadWord t = some (readW t) ∧ T_impl_ReadWord t = some (readW t) ∧ ((readW t).2 = true → (readW t).1.2.1 ≠ []) := by
  obtain ⟨r, h1, h2, hs, h3⟩ := r_ReadWord ht
  have hr : readW t = r := by rw [readW, h1]; rfl
  rw [hr]
  refine ⟨h1, h2, fun hok => ?_⟩
  have h4 := h3 hok
  obtain ⟨⟨k, b, c, e⟩, ok⟩ := r
  intro hb
  simp only at hb h4
  subst hb
  obtain ⟨v, h5, _⟩ := x_WordOk (a := k) (b := []) (c := c) (d := e) hs
  have h6 := s_WordText (a := k) (b := []) (c := c) (d := e) hs h5
  rw [h6] at h4
  cases v with
  | false => cases h4
  | true =>
    rw [e_T_spec_WordOk] at h5
    obtain ⟨p, h7, _, _⟩ := x_isPrivate (a := []) (by simp)
    rw [e_T_spec_l17Private] at h7
    rcases sp_total (a := []) (by simp) with h8 | ⟨c1, t1, h8, _⟩
    · rw [h8] at h7
      simp only [Option.bind_some, Option.some.injEq] at h7
      subst h7
      rw [(x_inRange _ _ _).1, e_T_spec_l17Private, h8] at h5
      simp only [Option.bind_some] at h5
      by_cases hk : 1 ≤ k ∧ k ≤ 4
      · simp [hk] at h5
      · simp [hk] at h5
    · cases h8
def badO (who t : List UInt8) (r : (Int × List UInt8 × List (List UInt8) × List UInt8) × Bool) : Bool := !r.2 || (r.1.1 == 4 && (!(who == []) && r.1.2.1 == who))
noncomputable def stIn (who : List UInt8) (_ : Nat) (t : List UInt8) (_ : Unit) : Unit ⊕ Bool := bif badO who t (readW t) then .inr false else .inl ()
noncomputable def pnL (d : Int) (t : List UInt8) : List UInt8 := (T_impl_PrivateName (d, t)).getD []
noncomputable def stOut (e : List CallerT) (i : Nat) (y : CallerT) (_ : Unit) : Unit ⊕ Bool := runL (stIn (pnL y.1.1 y.1.2.1)) 0 (heardL e i) ()
abbrev WorldT := List (Int × List Int) × List DaemonT × List (Int × Int × Int × (Int × Int × Int × List UInt8) × (Int × Int × Int × Int × Int × List Int) × Int × Int × Int × List (Int × Int × Int × List UInt8)) × List EventT
theorem x_inS {a : List (Int × List Int)} {b : List DaemonT} {c : List (Int × Int × Int × (Int × Int × Int × List UInt8) × (Int × Int × Int × Int × Int × List Int) × Int × Int × Int × List (Int × Int × Int × List UInt8))} {d : List EventT} {e : List CallerT} {f : List (List (List UInt8 × List (List UInt8)))} {g : List Int} {h i : Int} {j k : List UInt8} {l m : Bool} {o p : List (List UInt8)}
    (hj : j.length ≤ 1048576) (hp : p.length ≤ 4194304) (hs : ∀ t ∈ p, t.length ≤ 1048576) :
    L_spec_OwnOnly_1 fuel (((a, b, c, d), e, f, g), h, (i, j, (k, l), m, o), p, 0) = some (Sum.elim (fun _ => .inl (((a, b, c, d), e, f, g), h)) (fun r => .inr r) (runL (stIn (pnL i j)) 0 p ())) := by
  obtain ⟨r, g1, g2, g3⟩ := pn_same i hj
  have hpn : pnL i j = r := by rw [pnL, g2]; rfl
  rw [hpn]
  refine runL_loop (L := L_spec_OwnOnly_1) p (fun (_ : Unit) q => (((a, b, c, d), e, f, g), h, (i, j, (k, l), m, o), p, q)) (fun _ => (((a, b, c, d), e, f, g), h)) (stIn r) (fun n s q t ht hq => ?_) (fun n s => by rw [e_L_spec_OwnOnly_1]; simp) (by rw [maxLen_eq]; omega) ()
  obtain ⟨w1, w2, w3⟩ := readW_v (hs t (List.mem_of_getElem? ht))
  have hw : IntKind.i64.wrap ((q : Int) + 1) = (q : Int) + 1 := wrap_ok (by omega) (by omega)
  rw [e_L_spec_OwnOnly_1]
  simp only [show ((q : Int) < (p.length : Int)) by omega, decide_true, cond_true, Int.natCast_nonneg, if_true, Int.toNat_natCast, hq, ht, Option.bind_some, w1, stIn, badO, wrap_ok (n := (q : Int) + 1) (by omega) (by omega)]
  generalize readW t = z at w3
  obtain ⟨⟨z1, z2, z3, z4⟩, ok⟩ := z
  simp only at w3 ⊢
  cases ok with
  | false => simp [hw]
  | true =>
    have hz := w3 rfl
    by_cases hj0 : j = []
    · subst hj0
      rw [g3 rfl]
      simp [hw]
    · have hjb : (j == []) = false := by simpa using hj0
      simp only [Bool.not_true, cond_false, hjb, Bool.not_false, cond_true, g1, Option.bind_some, Bool.false_or]
      by_cases hk : z1 = 4
      · subst hk
        by_cases hr : r = []
        · subst hr
          have : (z2 == ([] : List UInt8)) = false := by simpa using hz
          simp [this, hw]
        · have : (r == ([] : List UInt8)) = false := by simpa using hr
          cases hzz : z2 == r <;> simp [this, hzz, hw]
      · have : (z1 == 4) = false := by simpa using hk
        simp [this, hw]
theorem x_inI {a : List (Int × List Int)} {b : List DaemonT} {c : List (Int × Int × Int × (Int × Int × Int × List UInt8) × (Int × Int × Int × Int × Int × List Int) × Int × Int × Int × List (Int × Int × Int × List UInt8))} {d : List EventT} {e : List CallerT} {f : List (List (List UInt8 × List (List UInt8)))} {g : List Int} {h : List UInt8} {i j : Int} {p : List (List UInt8)}
    (hp : p.length ≤ 4194304) (hs : ∀ t ∈ p, t.length ≤ 1048576) :
    L_impl_OwnOnly_1 fuel (((a, b, c, d), e, f, g), h, i, j, p, (p.length : Int), 0) = some (Sum.elim (fun _ => .inl (((a, b, c, d), e, f, g), i, j)) (fun r => .inr r) (runL (stIn h) 0 p ())) := by
  refine runL_loop (L := L_impl_OwnOnly_1) p (fun (_ : Unit) q => (((a, b, c, d), e, f, g), h, i, j, p, (p.length : Int), q)) (fun _ => (((a, b, c, d), e, f, g), i, j)) (stIn h) (fun n s q t ht hq => ?_) (fun n s => by rw [e_L_impl_OwnOnly_1]; simp) (by rw [maxLen_eq]; omega) ()
  obtain ⟨w1, w2, w3⟩ := readW_v (hs t (List.mem_of_getElem? ht))
  have hw : IntKind.i64.wrap ((q : Int) + 1) = (q : Int) + 1 := wrap_ok (by omega) (by omega)
  rw [e_L_impl_OwnOnly_1]
  simp only [show ((q : Int) < (p.length : Int)) by omega, decide_true, cond_true, Int.natCast_nonneg, if_true, Int.toNat_natCast, hq, ht, Option.bind_some, w2, stIn, badO, wrap_ok (n := (q : Int) + 1) (by omega) (by omega)]
  generalize readW t = z
  obtain ⟨⟨z1, z2, z3, z4⟩, ok⟩ := z
  simp only
  cases ok with
  | false => simp [hw]
  | true =>
    by_cases hk : z1 = 4
    · subst hk
      cases hr : h == ([] : List UInt8)
      · cases hzz : z2 == h <;> simp [hzz, hw]
      · simp [hw]
    · have : (z1 == 4) = false := by simpa using hk
      simp [this, hw]
theorem x_OwnOnly {a : List (Int × List Int)} {b : List DaemonT} {c : List (Int × Int × Int × (Int × Int × Int × List UInt8) × (Int × Int × Int × Int × Int × List Int) × Int × Int × Int × List (Int × Int × Int × List UInt8))} {d : List EventT} {e : List CallerT} {f : List (List (List UInt8 × List (List UInt8)))} {g : List Int}
    (h : SmC e) (hn : ∀ y ∈ e, y.1.2.1.length ≤ 1048576) (hs : ∀ i, ∀ t ∈ heardL e i, t.length ≤ 1048576) :
    ∃ v, T_spec_OwnOnly ((a, b, c, d), e, f, g) = some v ∧ T_impl_OwnOnly ((a, b, c, d), e, f, g) = some v := by
  have hel := h.1
  rw [e_T_spec_OwnOnly, e_T_impl_OwnOnly]
  have h1 := runL_loop (L := L_spec_OwnOnly_2) e (fun (_ : Unit) i => (((a, b, c, d), e, f, g), i)) (fun _ => ()) (stOut e) (fun n s i y hy hi => by
    rw [e_L_spec_OwnOnly_2]
    simp only [show ((i : Int) < (e.length : Int)) by omega, decide_true, cond_true, Int.natCast_nonneg, if_true, Int.toNat_natCast, hy, Option.bind_some, x_HeardS h hi, x_inS (hn y (List.mem_of_getElem? hy)) (heard_len h i) (hs i)]
    show _ = Sum.elim _ _ (stOut e i y s)
    rw [stOut]
    cases runL (stIn (pnL y.1.1 y.1.2.1)) 0 (heardL e i) () <;> simp only [Sum.elim_inl, Sum.elim_inr, Option.bind_some, wrap_ok (n := (i : Int) + 1) (by omega) (by omega)]) (fun n s' => by rw [e_L_spec_OwnOnly_2]; simp) (by rw [maxLen_eq]; omega) ()
  have h2 := runL_loop (L := L_impl_OwnOnly_2) e (fun (_ : Unit) i => (((a, b, c, d), e, f, g), (e.length : Int), i)) (fun _ => ()) (stOut e) (fun n s i y hy hi => by
    obtain ⟨r, g1, g2, g3⟩ := pn_same y.1.1 (hn y (List.mem_of_getElem? hy))
    have hpn : pnL y.1.1 y.1.2.1 = r := by rw [pnL, g2]; rfl
    rw [e_L_impl_OwnOnly_2]
    simp only [show ((i : Int) < (e.length : Int)) by omega, decide_true, cond_true, Int.natCast_nonneg, if_true, Int.toNat_natCast, hy, Option.bind_some, x_HeardI h hi, e_T___impl_Session__private, g2, x_inI (heard_len h i) (hs i)]
    show _ = Sum.elim _ _ (stOut e i y s)
    rw [stOut, hpn]
    cases runL (stIn r) 0 (heardL e i) () <;> simp only [Sum.elim_inl, Sum.elim_inr, Option.bind_some, wrap_ok (n := (i : Int) + 1) (by omega) (by omega)]) (fun n s' => by rw [e_L_impl_OwnOnly_2]; simp) (by rw [maxLen_eq]; omega) ()
  rw [h1, h2]
  cases runL (stOut e) 0 e () with
  | inl _ => exact ⟨true, rfl, rfl⟩
  | inr v => exact ⟨v, rfl, rfl⟩
theorem law_FnExactOwnOnly (w : Den [.agg (HallE false)]) (h : okL [.agg (HallE false)] w) : T_laws_FnExactOwnOnly w = some true := by
  obtain ⟨r, h1, h2, h3⟩ := z_szHall w 1048576 h (by decide) (by decide)
  obtain ⟨⟨a, b, c, d⟩, e, f, g⟩ := w
  rw [e_T_laws_FnExactOwnOnly, h1]
  simp only [Option.bind_some]
  by_cases hr : r < 0
  · simp [hr]
  · have hs : (HallE false).small ((a, b, c, d), e, f, g) := h3 (by omega)
    obtain ⟨v, h4, h5⟩ := x_OwnOnly (a := a) (b := b) (c := c) (d := d) (e := e) (f := f) (g := g) ⟨hs.2.1.1, fun y hy => ⟨(hs.2.1.2 y hy).2.2.2.1, (hs.2.1.2 y hy).2.1.2.1.1⟩⟩ (fun y hy => (hs.2.1.2 y hy).1.2.1) (fun i t ht => by
      unfold heardL at ht
      split at ht
      · rename_i y hy
        have hm := List.mem_of_getElem? hy
        rcases List.mem_append.1 ht with ht | ht
        · exact (hs.2.1.2 y hm).2.2.2.2 t ht
        · exact (hs.2.1.2 y hm).2.1.2.1.2 t ht
      · cases ht)
    simp only [hr, decide_false, cond_false, c_toHall hs, Option.bind_some, h4, h5, q_eqHall hs, beq_self_eq_true, Bool.not_true]
end Xs
end Go.Proofs.YtjeikneboeallaaGreatDoor
