/- What the reference's function answers, and the program's: the same. -/
import Derived.Test.YtceeeagdjphbnaaDoorXRSPc
namespace Go.Proofs.YtceeeagdjphbnaaDoor
open Go Vm
set_option linter.unusedVariables false
set_option linter.unusedSimpArgs false
namespace Xs
theorem lit8 (k : Nat) (h : k < 2 ^ 8) : ({ toBitVec := { toFin := ⟨k, h⟩ } } : UInt8) = UInt8.ofNat k := by
  apply UInt8.toNat_inj.1
  rw [UInt8.toNat_ofNat']
  exact (Nat.mod_eq_of_lt h).symm
abbrev RingU := Int × List Int
def scOk (R : List RingU) (D : List DeedU) : Prop := R.length ≤ 110 ∧ (∀ y ∈ R, y.2.length ≤ 601) ∧ D.length ≤ 90 ∧ ∀ e ∈ D, e.2.2.2.2.length ≤ 600
theorem dOk_len {e : DeedU} (h : dOk e = true) : e.2.2.2.2.length ≤ 600 := by
  unfold dOk at h
  simp only [Bool.and_eq_true] at h
  obtain ⟨-, -, -, h⟩ := h
  cases hk : e.1 == 1 with
  | true =>
    rw [hk] at h
    simp only [cond_true, Bool.and_eq_true, decide_eq_true_eq] at h
    omega
  | false =>
    rw [hk] at h
    simp only [cond_false, Bool.and_eq_true, beq_iff_eq] at h
    rw [h.2]; simp
/-- What a line of a ring adds. -/
theorem x_addRing {w x : List UInt8} {R : List RingU} {D : List DeedU} (hw : (w == [UInt8.ofNat 114, UInt8.ofNat 105, UInt8.ofNat 110, UInt8.ofNat 103]) = true) (hx : x.length ≤ 600) (hR : R.length ≤ 109) (hm : ∀ y ∈ R, y.2.length ≤ 601) :
    ∃ l ok, T_spec_l22Commas x = some (l, ok) ∧ l.length ≤ 601 ∧
      ∃ q, (ok = true → D = [] → T_spec_RingsOk (R ++ [((R.length : Int) + 1, l)]) = some q) ∧
        ∃ R', T___impl_script__addLine ((R, D), [w, x]) = some (ok && (D.isEmpty && q), R', D) ∧ (ok = true → R' = R ++ [((R.length : Int) + 1, l)]) := by
  have hI := x_readRing ((R.length : Int) + 1) (w := w) hx
  have hS := x_Commas hx
  have hgl := (splG_len 44 x []).1
  rw [e_T___impl_script__addLine]
  simp only [lit8, List.getElem?_cons_zero, Option.bind_some, hw, cond_true, wrap_ok (n := (R.length : Int) + 1) (by omega) (by omega), hI, if_pos (show (R.length + 1) * 32 ≤ 140737488355328 ∧ R.length + 1 ≤ 9223372036854775807 by omega), List.append_eq]
  cases hc : comG (splG 44 [] x) [] with
  | none =>
    rw [hc] at hS
    exact ⟨[], false, hS, by simp, false, fun h => absurd h (by decide), _, rfl, fun h => absurd h (by decide)⟩
  | some l =>
    rw [hc] at hS
    have hl : l.length ≤ 601 := by have := comG_len _ _ _ hc; simp at this; omega
    obtain ⟨q, q1, q2⟩ := x_RingsOk (R ++ [((R.length : Int) + 1, l)]) (by simp; omega) (fun y hy => by
      rcases List.mem_append.1 hy with h | h
      · have := hm y h; omega
      · rw [List.mem_singleton.1 h]; exact Nat.le_trans hl (by decide))
    refine ⟨l, true, hS, hl, q, fun _ _ => q1, R ++ [((R.length : Int) + 1, l)], ?_, fun _ => rfl⟩
    simp only [cond_true]
    cases D with
    | nil => simp only [List.length_nil, show ((((0 : Nat) : Int)) == 0) = true from rfl, cond_true, q2, Option.bind_some]; rfl
    | cons d D =>
      rw [show ((((d :: D).length : Nat) : Int) == 0) = false from beq_eq_false_iff_ne.2 (by rw [List.length_cons]; omega)]
      rfl
theorem x_addRing' {w : List UInt8} {rest : List (List UInt8)} {R : List RingU} {D : List DeedU} (hw : (w == [UInt8.ofNat 114, UInt8.ofNat 105, UInt8.ofNat 110, UInt8.ofNat 103]) = true) (hl : rest.length ≠ 1) (hR : R.length ≤ 109) :
    ∃ R', T___impl_script__addLine ((R, D), w :: rest) = some (false, R', D) := by
  have hI := x_readRing' ((R.length : Int) + 1) (p := w :: rest) (by rw [List.length_cons]; omega)
  rw [e_T___impl_script__addLine]
  simp only [lit8, List.getElem?_cons_zero, Option.bind_some, hw, cond_true, wrap_ok (n := (R.length : Int) + 1) (by omega) (by omega), hI, if_pos (show (R.length + 1) * 32 ≤ 140737488355328 ∧ R.length + 1 ≤ 9223372036854775807 by omega), cond_false]
  exact ⟨_, rfl⟩
theorem x_addDeed {w : List UInt8} {rest : List (List UInt8)} {R : List RingU} {D : List DeedU} (hw : (w == [UInt8.ofNat 114, UInt8.ofNat 105, UInt8.ofNat 110, UInt8.ofNat 103]) = false) (hD : D.length ≤ 90) {e : DeedU} {ok : Bool} (h : T_impl_readDeed (w :: rest) = some (e, ok && dOk e)) :
    T___impl_script__addLine ((R, D), w :: rest) = some (bif ok && (dOk e && (!R.isEmpty && !((D.length : Int) == 90))) then (true, R, D ++ [e]) else (false, R, D)) := by
  rw [e_T___impl_script__addLine]
  simp only [lit8, List.getElem?_cons_zero, Option.bind_some, hw, cond_false, h]
  obtain ⟨e1, e2, e3, e4, e5⟩ := e
  cases ok with
  | false => rfl
  | true =>
    cases hk : dOk (e1, e2, e3, e4, e5) with
    | false => rfl
    | true =>
      simp only [Bool.and_self, Bool.not_true, cond_false, Bool.true_and]
      cases R with
      | nil => rfl
      | cons r R =>
        rw [show ((((r :: R).length : Nat) : Int) == 0) = false from beq_eq_false_iff_ne.2 (by rw [List.length_cons]; omega)]
        simp only [cond_false, Option.bind_some, Sum.elim_inl, if_pos (show (D.length + 1) * 48 ≤ 140737488355328 ∧ D.length + 1 ≤ 9223372036854775807 by omega), List.append_eq, List.isEmpty_cons, Bool.not_false, Bool.true_and]
        by_cases h9 : D.length = 90
        · rw [decide_eq_true (show (90 : Int) ≤ (D.length : Int) by omega), show (((D.length : Nat) : Int) == 90) = true from by rw [beq_iff_eq]; omega]; rfl
        · rw [decide_eq_false (show ¬ (90 : Int) ≤ (D.length : Int) by omega), show (((D.length : Nat) : Int) == 90) = false from beq_eq_false_iff_ne.2 (by omega)]; rfl
abbrev ScR := (List RingU × List DeedU) ⊕ (List RingU × List DeedU × Int)
def cvS : ScR → (List DeedU × List RingU × List DeedU) ⊕ (List RingU × List DeedU × Int)
  | .inl y => .inl ([], y.1, y.2)
  | .inr z => .inr z
def okS : ScR → Prop
  | .inl y => scOk y.1 y.2
  | .inr z => z.1 = [] ∧ z.2.1 = []
theorem l_Script (l : List (List UInt8)) (hl : l.length ≤ 110) : ∀ (s : List (List UInt8)) (i n : Nat) (R : List RingU) (D : List DeedU), l.drop i = s → i + s.length = l.length → R.length ≤ i → scOk R D → s.length < n →
    ∃ r : ScR, L_spec_ReadScript_1 n ([], l, R, D, (i : Int)) = some (cvS r) ∧ L_impl_ReadScript_1 n ((R, D), l, (l.length : Int), (i : Int)) = some r ∧ okS r
  | [], i, n + 1, R, D, h, hi, hR, hs, hn => by
    simp only [List.length_nil, Nat.add_zero] at hi
    rw [e_L_spec_ReadScript_1, e_L_impl_ReadScript_1]
    simp only [decide_eq_false (show ¬ ((i : Int) < (l.length : Int)) by omega), cond_false]
    exact ⟨.inl (R, D), rfl, rfl, hs⟩
  | x :: s, i, n + 1, R, D, h, hi, hR, hs, hn => by
    simp only [List.length_cons] at hi hn
    have hx : l[i]? = some x := by
      have := congrArg (fun l => l[0]?) h
      simpa using this
    have t3 : l.drop (i + 1) = s := by rw [← List.drop_drop, h]; rfl
    have ih := fun R D a b => l_Script l hl s (i + 1) n R D t3 (by omega) a b (by omega)
    rw [show ((i + 1 : Nat) : Int) = (i : Int) + 1 by omega] at ih
    rw [e_L_spec_ReadScript_1, e_L_impl_ReadScript_1]
    simp only [lit8, decide_eq_true (show ((i : Int) < (l.length : Int)) by omega), cond_true, Int.natCast_nonneg, if_true, Int.toNat_natCast, if_pos (show i < l.length by omega), hx, Option.bind_some, (x_PartsOf x).1, (x_PartsOf x).2]
    have hne := partsG_ne x
    generalize partsG x = pq at hne ⊢
    obtain ⟨p, ok⟩ := pq
    have bad : ∃ r : ScR, (some (.inr ([], [], (i : Int) + 1)) : Option ((List DeedU × List RingU × List DeedU) ⊕ (List RingU × List DeedU × Int))) = some (cvS r) ∧ (some (.inr ([], [], (i : Int) + 1)) : Option ScR) = some r ∧ okS r := ⟨.inr ([], [], (i : Int) + 1), rfl, rfl, rfl, rfl⟩
    have hwr : IntKind.i64.wrap ((i : Int) + 1) = (i : Int) + 1 := wrap_ok (by omega) (by omega)
    have bad1 : ∃ r : ScR, (some (.inr ([], [], IntKind.i64.wrap ((i : Int) + 1))) : Option ((List DeedU × List RingU × List DeedU) ⊕ (List RingU × List DeedU × Int))) = some (cvS r) ∧ (some (.inr ([], [], (i : Int) + 1)) : Option ScR) = some r ∧ okS r := by rw [hwr]; exact bad
    have bad2 : ∃ r : ScR, (some (.inr ([], [], IntKind.i64.wrap ((i : Int) + 1))) : Option ((List DeedU × List RingU × List DeedU) ⊕ (List RingU × List DeedU × Int))) = some (cvS r) ∧ (some (.inr ([], [], IntKind.i64.wrap ((i : Int) + 1))) : Option ScR) = some r ∧ okS r := by rw [hwr]; exact bad
    have bad3 : ∃ r : ScR, (some (.inr ([], [], (i : Int) + 1)) : Option ((List DeedU × List RingU × List DeedU) ⊕ (List RingU × List DeedU × Int))) = some (cvS r) ∧ (some (.inr ([], [], IntKind.i64.wrap ((i : Int) + 1))) : Option ScR) = some r ∧ okS r := by rw [hwr]; exact bad
    cases ok with
    | false =>
      simp only [cond_false, Option.bind_some, Sum.elim_inl, Sum.elim_inr, Bool.not_false, cond_true, wrap_ok (n := (i : Int) + 1) (by omega) (by omega)]
      first | exact bad | exact bad1 | exact bad2 | exact bad3
    | true =>
    cases p with
    | nil =>
      simp only [cond_true, List.length_nil, show ((((0 : Nat) : Int)) == 0) = true from rfl, Option.bind_some, Sum.elim_inl, wrap_ok (n := (i : Int) + 1) (by omega) (by omega)]
      exact ih R D (by omega) hs
    | cons w rest =>
    have hw0 : 0 < w.length := List.length_pos_iff.2 (hne w List.mem_cons_self).1
    have hlz : ((((w :: rest).length : Nat) : Int) == 0) = false := beq_eq_false_iff_ne.2 (by rw [List.length_cons]; omega)
    have hlp : 0 < (w :: rest).length := by rw [List.length_cons]; omega
    simp only [cond_true, hlz, cond_false, if_pos hlp, List.getElem?_cons_zero, Option.bind_some, if_pos (show (0 : Int) < (w.length : Int) by omega), Sum.elim_inl, Bool.not_true]
    generalize ((((w.getD 0 0).toNat : Nat) : Int) == 35) = qr
    cases qr with
    | true =>
      simp only [cond_true, Option.bind_some, Sum.elim_inl, wrap_ok (n := (i : Int) + 1) (by omega) (by omega)]
      exact ih R D (by omega) hs
    | false =>
    simp only [cond_false]
    cases hw : (w == [UInt8.ofNat 114, UInt8.ofNat 105, UInt8.ofNat 110, UInt8.ofNat 103]) with
    | true =>
      by_cases hr : rest.length = 1
      · obtain ⟨y, rfl⟩ := List.length_eq_one_iff.1 hr
        obtain ⟨m, ok, h1, h2, q, h3, R', h4, h5⟩ := x_addRing (D := D) hw (hne y (by simp)).2 (show R.length ≤ 109 by omega) hs.2.1
        simp only [cond_true, List.length_cons, List.length_nil, show ((((0 + 1 + 1 : Nat)) : Int) == 2) = true from rfl, show (1 < 0 + 1 + 1) = True by simp, if_true, List.getElem?_cons_succ, List.getElem?_cons_zero, Option.bind_some, Sum.elim_inl, h1, h4, if_pos (show (R.length + 1) * 32 ≤ 140737488355328 ∧ R.length + 1 ≤ 9223372036854775807 by omega), List.append_eq, wrap_ok (n := (R.length : Int) + 1) (by omega) (by omega), wrap_ok (n := (i : Int) + 1) (by omega) (by omega)]
        cases ok with
        | false => first | exact bad | exact bad1 | exact bad2 | exact bad3
        | true =>
          simp only [Bool.not_true, cond_false, Bool.true_and]
          cases D with
          | cons d D =>
            rw [decide_eq_true (show (0 : Int) < (((d :: D).length : Nat) : Int) by rw [List.length_cons]; omega)]
            first | exact bad | exact bad1 | exact bad2 | exact bad3
          | nil =>
            rw [h5 rfl]
            simp only [List.length_nil, show decide ((0 : Int) < ((0 : Nat) : Int)) = false from rfl, cond_false, h3 rfl rfl, Option.bind_some, Sum.elim_inl, List.isEmpty_nil, Bool.true_and]
            cases q with
            | false => first | exact bad | exact bad1 | exact bad2 | exact bad3
            | true =>
              simp only [Bool.not_true, cond_false, Option.bind_some, Sum.elim_inl, wrap_ok (n := (i : Int) + 1) (by omega) (by omega)]
              exact ih _ [] (by simp; omega) ⟨by simp; omega, fun y hy => by
                rcases List.mem_append.1 hy with h | h
                · exact hs.2.1 y h
                · rw [List.mem_singleton.1 h]; exact h2, by simp, by simp⟩
      · obtain ⟨R', h4⟩ := x_addRing' (D := D) hw hr (show R.length ≤ 109 by omega)
        have h22 := v_l22DeedN (w := w) (rest := rest) (fun h => absurd h hr) (fun _ => by
          rw [eq_of_beq hw]; exact ⟨by decide, by decide⟩)
        have hl2 : ((((w :: rest).length : Nat) : Int) == 2) = false := beq_eq_false_iff_ne.2 (by rw [List.length_cons]; omega)
        simp only [cond_true, hl2, cond_false, Option.bind_some, Sum.elim_inl, Sum.elim_inr, h22, h4, Bool.not_false, wrap_ok (n := (i : Int) + 1) (by omega) (by omega)]
        first | exact bad | exact bad1 | exact bad2 | exact bad3
    | false =>
      obtain ⟨e, ok, h1, h2⟩ := x_Deed w rest
      have h3 := x_addDeed (R := R) hw hs.2.2.1 h2
      obtain ⟨e1, e2, e3, e4, e5⟩ := e
      simp only [cond_false, Option.bind_some, Sum.elim_inl, h1, h3, (x_DeedOk _).1, wrap_ok (n := (i : Int) + 1) (by omega) (by omega)]
      cases ok with
      | false => first | exact bad | exact bad1 | exact bad2 | exact bad3
      | true =>
      cases hk : dOk (e1, e2, e3, e4, e5) with
      | false => first | exact bad | exact bad1 | exact bad2 | exact bad3
      | true =>
      cases R with
      | nil => first | exact bad | exact bad1 | exact bad2 | exact bad3
      | cons r R =>
      have hlr : ((((r :: R).length : Nat) : Int) == 0) = false := beq_eq_false_iff_ne.2 (by rw [List.length_cons]; omega)
      have hDl := hs.2.2.1
      simp only [Bool.not_true, cond_false, hlr, Option.bind_some, Sum.elim_inl, Bool.true_and, List.isEmpty_cons, Bool.not_false, if_pos (show (D.length + 1) * 48 ≤ 140737488355328 ∧ D.length + 1 ≤ 9223372036854775807 by omega), List.append_eq]
      by_cases h9 : D.length = 90
      · rw [show (((D.length : Nat) : Int) == 90) = true from by rw [beq_iff_eq]; omega]
        first | exact bad | exact bad1 | exact bad2 | exact bad3
      · rw [show (((D.length : Nat) : Int) == 90) = false from beq_eq_false_iff_ne.2 (by omega)]
        simp only [Bool.not_false, Bool.not_true, cond_true, cond_false, Option.bind_some, Sum.elim_inl, wrap_ok (n := (i : Int) + 1) (by omega) (by omega)]
        exact ih (r :: R) _ (by omega) ⟨hs.1, hs.2.1, by simp; omega, fun y hy => by
          rcases List.mem_append.1 hy with h | h
          · exact hs.2.2.2 y h
          · rw [List.mem_singleton.1 h]; exact dOk_len hk⟩
theorem x_ReadScript {a : List UInt8} (ha : a.length ≤ 1048576) : ∃ R D k, T_spec_ReadScript a = some (R, D, k) ∧ T_impl_ReadScript a = some (R, D, k) ∧ scOk R D := by
  have hz : scOk [] [] := ⟨by simp, by simp, by simp, by simp⟩
  rw [e_T_spec_ReadScript, e_T_impl_ReadScript]
  rw [(x_Lines ha).1, (x_Lines ha).2]
  by_cases h4 : 4000 < a.length
  · simp only [decide_eq_true (show (4000 : Int) < (a.length : Int) by omega), cond_true, Option.bind_some, Sum.elim_inl]
    exact ⟨[], [], -1, rfl, rfl, hz⟩
  simp only [decide_eq_false (show ¬ (4000 : Int) < (a.length : Int) by omega), cond_false, Option.bind_some, Sum.elim_inl]
  by_cases h1 : 110 < (linesG a).length
  · simp only [decide_eq_true (show (110 : Int) < ((linesG a).length : Int) by omega), cond_true, Option.bind_some, Sum.elim_inl]
    exact ⟨[], [], -1, rfl, rfl, hz⟩
  obtain ⟨r, e1, e2, e3⟩ := l_Script (linesG a) (by omega) (linesG a) 0 fuel [] [] rfl (by omega) (by simp) hz (by simp only [fuel]; omega)
  rw [show ((0 : Nat) : Int) = 0 from rfl] at e1 e2
  simp only [decide_eq_false (show ¬ (110 : Int) < ((linesG a).length : Int) by omega), cond_false, (x_Lines ha).1, Option.bind_some, e1, e2]
  rcases r with ⟨R, D⟩ | ⟨R, D, k⟩
  · simp only [cvS, Sum.elim_inl]
    cases R with
    | nil => exact ⟨[], [], 1, rfl, rfl, hz⟩
    | cons r R =>
      rw [show ((((r :: R).length : Nat) : Int) == 0) = false from beq_eq_false_iff_ne.2 (by rw [List.length_cons]; omega)]
      exact ⟨r :: R, D, 0, rfl, rfl, e3⟩
  · obtain ⟨rfl, rfl⟩ : R = [] ∧ D = [] := e3
    exact ⟨[], [], k, rfl, rfl, hz⟩
end Xs
end Go.Proofs.YtceeeagdjphbnaaDoor
