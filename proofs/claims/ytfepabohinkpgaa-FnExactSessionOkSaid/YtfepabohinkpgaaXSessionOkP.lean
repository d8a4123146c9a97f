/- What the reference's function answers, and the program's: the same. -/
import Derived.Test.YtfepabohinkpgaaT9
import Derived.Test.YtfepabohinkpgaaXSessionOkE
namespace Go.Proofs.Ytfepabohinkpgaa
open Go Vm
set_option linter.unusedVariables false
set_option linter.unusedSimpArgs false
namespace Xs
theorem z_szReader : SzOk (.pair .str .bool) T_laws_szReader := by
  rintro ⟨a, b⟩ n ⟨h_a, h_b⟩ h0 hn
  rw [e_T_laws_szReader]
  refine Sz.str h_a (by omega) (by omega) (by omega) fun p1 w1 s_a => ?_
  try rw [w1]
  exact Sz.fin (by omega) ⟨s_a, trivial⟩
theorem z_szStringS : SzOk (.sl false .str) T_laws_szStringS :=
  sz_sl (e := .str) (fun y b => some (IntKind.i64.wrap (b - (y.length : Int)))) e_T_laws_szStringS e_L_laws_szStringS_1 sz_str
theorem z_szSession : SzOk (.pair (.int .i64) (.pair .str (.pair (.pair .str .bool) (.pair .bool (.sl false .str))))) T_laws_szSession := by
  rintro ⟨a, b, ⟨c, d⟩, e, f⟩ n ⟨h_a, h_b, ⟨h_c, h_d⟩, h_e, h_f⟩ h0 hn
  rw [e_T_laws_szSession]
  refine Sz.str h_b (by omega) (by omega) (by omega) fun p1 w1 s_b => ?_
  try rw [w1]
  refine Sz.call z_szReader ⟨h_c, h_d⟩ (by omega) (by omega) (by omega) fun r2 p2 q2 s2 => ?_
  refine Sz.call z_szStringS h_f (by omega) (by omega) (by omega) fun r3 p3 q3 s3 => ?_
  exact Sz.fin (by omega) ⟨trivial, s_b, s2, trivial, s3⟩
theorem c_toReader {x : (ET.pair .str .bool).den} (h : (ET.pair .str .bool).small x) : T_laws_toReader x = some x := by
  obtain ⟨a, b⟩ := x
  obtain ⟨h_a, h_b⟩ := h
  simp only [e_T_laws_toReader, Option.bind_some]
theorem c_toStringS {a : (ET.sl false (.str)).den} (h : (ET.sl false (.str)).small a) : T_laws_toStringS a = some a := by
  have h1 : a.length ≤ 1048576 := h.1
  refine to_sl (L := L_laws_toStringS_1) [] h1 ?_ (fun n b i y hy hi => ?_) (fun n b => ?_)
  · rw [e_T_laws_toStringS, if_pos ⟨by omega, rfl, by omega, by omega⟩]; rfl
  · have hlt := (List.getElem?_eq_some_iff.1 hy).1
    rw [e_L_laws_toStringS_1]
    simp only [show ((i : Int) < (a.length : Int)) by omega, decide_true, cond_true, Int.natCast_nonneg, if_true, Int.toNat_natCast, hy, Option.bind_some, hi, List.getElem?_eq_getElem hi]
    rw [wrap_ok (by omega) (by omega)]
  · rw [e_L_laws_toStringS_1]; simp
theorem c_toSession {x : (ET.pair (.int .i64) (.pair .str (.pair (.pair .str .bool) (.pair .bool (.sl false .str))))).den} (h : (ET.pair (.int .i64) (.pair .str (.pair (.pair .str .bool) (.pair .bool (.sl false .str))))).small x) : T_laws_toSession x = some x := by
  obtain ⟨a, b, ⟨c, d⟩, e, f⟩ := x
  obtain ⟨h_a, h_b, ⟨h_c, h_d⟩, h_e, h_f⟩ := h
  simp only [e_T_laws_toSession, c_toReader ⟨h_c, h_d⟩, c_toStringS h_f, Option.bind_some]
theorem q_eqReader {x : (ET.pair .str .bool).den} (h : (ET.pair .str .bool).small x) : T_laws_eqReader (x, x) = some true := by
  obtain ⟨a, b⟩ := x
  obtain ⟨h_a, h_b⟩ := h
  simp only [e_T_laws_eqReader, Option.bind_some, beq_self_eq_true, Bool.not_true, cond_false]
theorem q_eqStringS {a : (ET.sl false (.str)).den} (h : (ET.sl false (.str)).small a) : T_laws_eqStringS (a, a) = some true := by
  have h1 : a.length ≤ 1048576 := h.1
  rw [e_T_laws_eqStringS, eq_sl (L := L_laws_eqStringS_1) (Nat.le_trans h1 (by decide)) (fun n i y hy => ?_) (fun n => ?_)]
  · simp
  · have hlt := (List.getElem?_eq_some_iff.1 hy).1
    rw [e_L_laws_eqStringS_1]
    simp only [show ((i : Int) < (a.length : Int)) by omega, decide_true, cond_true, Int.natCast_nonneg, if_true, Int.toNat_natCast, hy, Option.bind_some, beq_self_eq_true, Bool.not_true, cond_false]
    rw [wrap_ok (by omega) (by omega)]
  · rw [e_L_laws_eqStringS_1]; simp
theorem q_eqSession {x : (ET.pair (.int .i64) (.pair .str (.pair (.pair .str .bool) (.pair .bool (.sl false .str))))).den} (h : (ET.pair (.int .i64) (.pair .str (.pair (.pair .str .bool) (.pair .bool (.sl false .str))))).small x) : T_laws_eqSession (x, x) = some true := by
  obtain ⟨a, b, ⟨c, d⟩, e, f⟩ := x
  obtain ⟨h_a, h_b, ⟨h_c, h_d⟩, h_e, h_f⟩ := h
  simp only [e_T_laws_eqSession, q_eqReader ⟨h_c, h_d⟩, q_eqStringS h_f, Option.bind_some, beq_self_eq_true, Bool.not_true, cond_false]
theorem small_len {s : List UInt8} (h : ET.str.small s) : s.length ≤ maxLen := Nat.le_trans h (by decide)
theorem smallL_len {e : ET} {o : Bool} {s : List e.den} (h : (ET.sl o e).small s) : s.length ≤ maxLen := Nat.le_trans h.1 (by decide)
theorem x_inRange (a b c : Int) : T_spec_l01In (a, b, c) = some (decide (b ≤ a ∧ a ≤ c)) ∧ T_impl_inRange (a, b, c) = some (decide (b ≤ a ∧ a ≤ c)) := by
  rw [e_T_spec_l01In, e_T_impl_inRange]
  by_cases h : b ≤ a <;> simp [h]
/-- A name's step, as the reference has it. -/
def nameS (i : Nat) (y : UInt8) (_ : Unit) : Option (Unit ⊕ Bool) :=
  some (if (97 ≤ (y.toNat : Int) ∧ (y.toNat : Int) ≤ 122) ∨ (¬ i = 0 ∧ 48 ≤ (y.toNat : Int) ∧ (y.toNat : Int) ≤ 57) then .inl () else .inr false)
theorem getD_of {a : List UInt8} {i : Nat} {y : UInt8} (h : a[i]? = some y) (d : UInt8) : a.getD i d = y := by simp [List.getD_eq_getElem?_getD, h]
theorem w1 : IntKind.i64.wrap 1 = 1 := by decide +kernel
theorem l_implName {a : List UInt8} (h : a.length ≤ maxLen) : L_impl_NameOk_1 fuel (a, 0) = (each nameS 0 a ()).bind (Sum.elim (fun _ => some (.inl a)) fun r => some (.inr r)) := by
  refine each_loop (L := L_impl_NameOk_1) a (fun (_ : Unit) c => (a, c)) (fun _ => a) nameS (fun n s i y hy => ?_) (fun n s => ?_) h ()
  · have hlt := (List.getElem?_eq_some_iff.1 hy).1
    rw [maxLen_eq] at h
    rw [e_L_impl_NameOk_1]
    simp only [show ((i : Int) < (a.length : Int)) by omega, decide_true, cond_true, Int.natCast_nonneg, if_true, Int.toNat_natCast, getD_of hy, wrap_ok (n := (i : Int) + 1) (by omega) (by omega), nameS, ← Int.not_le, decide_not]
    have i0 : ¬ i = 0 → ((i : Int) == 0) = false := fun h => by simp [h]
    by_cases h1 : (97 : Int) ≤ y.toNat <;> by_cases h2 : (y.toNat : Int) ≤ 122 <;> by_cases h3 : i = 0 <;> by_cases h4 : (48 : Int) ≤ y.toNat <;> by_cases h5 : (y.toNat : Int) ≤ 57 <;> simp [h1, h2, h3, h4, h5, (List.getElem?_eq_some_iff.1 hy).2, hlt, Nat.not_le.2 hlt, wrap_ok (n := (i : Int) + 1) (by omega) (by omega), w1, i0, -Int.not_le]
  · rw [e_L_impl_NameOk_1]; simp
theorem l_specName {a : List UInt8} (h : a.length ≤ maxLen) (h0 : ∃ y, a[0]? = some y ∧ (97 : Int) ≤ y.toNat ∧ (y.toNat : Int) ≤ 122) : L_spec_NameOk_1 fuel (a, 0) = (each nameS 0 a ()).bind (Sum.elim (fun _ => some (.inl ())) fun r => some (.inr r)) := by
  refine each_loop (L := L_spec_NameOk_1) a (fun (_ : Unit) c => (a, c)) (fun _ => ()) nameS (fun n s i y hy => ?_) (fun n s => ?_) h ()
  · have hlt := (List.getElem?_eq_some_iff.1 hy).1
    rw [maxLen_eq] at h
    rw [e_L_spec_NameOk_1]
    simp only [show ((i : Int) < (a.length : Int)) by omega, decide_true, cond_true, Int.natCast_nonneg, if_true, Int.toNat_natCast, getD_of hy, wrap_ok (n := (i : Int) + 1) (by omega) (by omega), nameS, ← Int.not_le, decide_not]
    by_cases h3 : i = 0
    · subst h3
      obtain ⟨z, hz, h1, h2⟩ := h0
      rw [hy] at hz; cases hz
      simp [h1, h2, (List.getElem?_eq_some_iff.1 hy).2, w1, hlt, -Int.not_le]
    · have i0 : ((i : Int) == 0) = false := by simp [h3]
      by_cases h1 : (97 : Int) ≤ y.toNat <;> by_cases h2 : (y.toNat : Int) ≤ 122 <;> by_cases h4 : (48 : Int) ≤ y.toNat <;> by_cases h5 : (y.toNat : Int) ≤ 57 <;> simp [h1, h2, h3, h4, h5, (List.getElem?_eq_some_iff.1 hy).2, hlt, Nat.not_le.2 hlt, wrap_ok (n := (i : Int) + 1) (by omega) (by omega), w1, i0, -Int.not_le]
  · rw [e_L_spec_NameOk_1]; simp
theorem each_name (l : List UInt8) (i : Nat) : each nameS i l () = some (.inl ()) ∨ each nameS i l () = some (.inr false) := by
  induction l generalizing i with
  | nil => exact .inl rfl
  | cons y l ih =>
    simp only [each, nameS]
    split
    · exact ih (i + 1)
    · exact .inr rfl
theorem x_NameOk {a : List UInt8} (h : a.length ≤ maxLen) : ∃ b, T_spec_NameOk a = some b ∧ T_impl_NameOk a = some b := by
  rw [e_T_spec_NameOk, e_T_impl_NameOk, l_implName h]
  simp only [(x_inRange _ _ _).1, Option.bind_some]
  by_cases hr : (1 : Int) ≤ a.length ∧ (a.length : Int) ≤ 12
  · obtain ⟨y, hy⟩ : ∃ y, a[0]? = some y := ⟨a[0]'(by omega), List.getElem?_eq_getElem (by omega)⟩
    simp only [hr, and_self, decide_true, Bool.not_true, cond_false, show (0 : Int) < a.length by omega, if_true, getD_of hy]
    by_cases h0 : (97 : Int) ≤ y.toNat ∧ (y.toNat : Int) ≤ 122
    · rw [show decide ((y.toNat : Int) < 97) = false by simp; omega, show decide (122 < (y.toNat : Int)) = false by simp; omega]
      simp only [cond_false, Option.bind_some, Sum.elim_inl, l_specName h ⟨y, hy, h0⟩]
      rcases each_name a 0 with h1 | h1 <;> rw [h1] <;> simp [(x_inRange _ _ _).2, hr]
    · have h1 : each nameS 0 a () = some (.inr false) := by
        match a, hy with
        | z :: l, hy =>
          simp at hy; subst hy
          simp [each, nameS, h0]
      rw [h1]
      refine ⟨false, ?_, rfl⟩
      by_cases h2 : (y.toNat : Int) < 97
      · simp [h2]
      · have h3 : (122 : Int) < y.toNat := by omega
        simp [h2, h3]
  · refine ⟨false, by simp [hr], ?_⟩
    rcases each_name a 0 with h1 | h1 <;> rw [h1] <;> simp only [(x_inRange _ _ _).2, hr, Option.bind_some, Sum.elim_inl, Sum.elim_inr, decide_false]
/-- A step along names: right, and above the one ahead. -/
def nmS (a : List (List UInt8)) (i : Nat) (y : List UInt8) (_ : Unit) : Option (Unit ⊕ Bool) :=
  (T_impl_NameOk y).bind fun r => bif !r then some (.inr false) else bif decide (0 < i) then a[i - 1]?.bind fun z => some (bif Op.bytesLess y z || y == z then .inr false else .inl ()) else some (.inl ())
theorem l_nm {σ : Type} {L : Nat → σ → Option (Unit ⊕ Bool)} {a : List (List UInt8)} (st : Int → σ) (h : (ET.sl false .str).small a) (hL : ∀ n (i : Nat) y, a[i]? = some y → (i : Int) < a.length → IntKind.i64.wrap ((i : Int) + 1) = i + 1 → (0 < i → IntKind.i64.wrap ((i : Int) - 1) = ((i - 1 : Nat) : Int)) → T_spec_NameOk y = T_impl_NameOk y →
    L (n + 1) (st i) = (nmS a i y ()).bind (Sum.elim (fun _ => L n (st ((i : Int) + 1))) fun r => some (.inr r))) (hE : ∀ n, L (n + 1) (st a.length) = some (.inl ())) : L fuel (st 0) = each (nmS a) 0 a () := by
  have hl : a.length ≤ 1048576 := h.1
  rw [each_loop (L := L) a (fun (_ : Unit) c => st c) (fun _ => ()) (nmS a) (fun n s i y hy => ?_) (fun n s => hE n) (by rw [maxLen_eq]; omega) ()]
  · cases each (nmS a) 0 a () with
    | none => rfl
    | some q => cases q <;> rfl
  · have hlt := (List.getElem?_eq_some_iff.1 hy).1
    obtain ⟨b, h1, h2⟩ := x_NameOk (a := y) (Nat.le_trans (h.2 y (List.mem_of_getElem? hy)) (by decide))
    exact hL n i y hy (by omega) (wrap_ok (by omega) (by omega)) (fun h0 => by rw [wrap_ok (by omega) (by omega)]; omega) (by rw [h1, h2])
theorem l_implNames {a : List (List UInt8)} (h : (ET.sl false .str).small a) : L_impl_areNames_1 fuel (a, a, (a.length : Int), 0) = each (nmS a) 0 a () :=
  l_nm (L := L_impl_areNames_1) (fun c => (a, a, (a.length : Int), c)) h (fun n i y hy hlt hw hw' hn => by
    rw [e_L_impl_areNames_1]
    simp only [hlt, decide_true, cond_true, Int.natCast_nonneg, if_true, Int.toNat_natCast, hy, Option.bind_some, nmS]
    cases T_impl_NameOk y with
    | none => rfl
    | some r =>
      cases r with
      | false => rfl
      | true =>
        by_cases h0 : 0 < i
        · simp only [Option.bind_some, Bool.not_true, cond_false, show (0 : Int) < i by omega, decide_true, cond_true, hw' h0, Int.natCast_nonneg, if_true, Int.toNat_natCast, h0]
          cases a[i - 1]? with
          | none => rfl
          | some z =>
            simp only [Option.bind_some, Sum.elim_inl]
            cases Op.bytesLess y z || y == z <;> simp only [cond_true, cond_false, Option.bind_some, Sum.elim_inl, Sum.elim_inr, hw]
        · simp only [Option.bind_some, Bool.not_true, cond_false, show ¬ (0 : Int) < i by omega, decide_false, h0, Sum.elim_inl, hw]) (fun n => by rw [e_L_impl_areNames_1]; simp)
theorem l_specNames {a : List (List UInt8)} (h : (ET.sl false .str).small a) : L_spec_l17Names_1 fuel (a, 0) = each (nmS a) 0 a () :=
  l_nm (L := L_spec_l17Names_1) (fun c => (a, c)) h (fun n i y hy hlt hw hw' hn => by
    rw [e_L_spec_l17Names_1]
    simp only [hlt, decide_true, cond_true, Int.natCast_nonneg, if_true, Int.toNat_natCast, hy, Option.bind_some, nmS, hn]
    cases T_impl_NameOk y with
    | none => rfl
    | some r =>
      cases r with
      | false => rfl
      | true =>
        by_cases h0 : 0 < i
        · simp only [Option.bind_some, Bool.not_true, cond_false, show (0 : Int) < i by omega, decide_true, cond_true, hw' h0, Int.natCast_nonneg, if_true, Int.toNat_natCast, h0]
          cases a[i - 1]? with
          | none => rfl
          | some z =>
            simp only [Option.bind_some, Sum.elim_inl, less_not]
            cases Op.bytesLess y z || y == z <;> simp only [cond_true, cond_false, Option.bind_some, Sum.elim_inl, Sum.elim_inr, hw]
        · simp only [Option.bind_some, Bool.not_true, cond_false, show ¬ (0 : Int) < i by omega, decide_false, h0, Sum.elim_inl, hw]) (fun n => by rw [e_L_spec_l17Names_1]; simp)
theorem each_nm {a : List (List UInt8)} (h : (ET.sl false .str).small a) : each (nmS a) 0 a () = some (.inl ()) ∨ each (nmS a) 0 a () = some (.inr false) := by
  rcases each_rule (step := nmS a) (fun _ _ => True) (fun r => r = false) a 0 () trivial (fun i y s hy _ => by
    rw [Nat.zero_add]
    obtain ⟨b, _, h2⟩ := x_NameOk (a := y) (Nat.le_trans (h.2 y (List.mem_of_getElem? hy)) (by decide))
    have hlt := (List.getElem?_eq_some_iff.1 hy).1
    simp only [nmS, h2, Option.bind_some]
    cases b with
    | false => exact .inr ⟨false, rfl, rfl⟩
    | true =>
      by_cases h0 : 0 < i
      · rw [List.getElem?_eq_getElem (show i - 1 < a.length by omega)]
        simp only [h0, decide_true, cond_true, Bool.not_true, cond_false, Option.bind_some]
        cases Op.bytesLess y a[i - 1] || y == a[i - 1]
        · exact .inl ⟨(), rfl, trivial⟩
        · exact .inr ⟨false, rfl, rfl⟩
      · exact .inl ⟨(), by simp only [h0, decide_false, Bool.not_true, cond_false], trivial⟩) with ⟨s, h1, _⟩ | ⟨r, h1, rfl⟩
  · exact .inl h1
  · exact .inr h1
theorem x_areNames {a : List (List UInt8)} (h : (ET.sl false .str).small a) : ∃ v, T_spec_l17Names a = some v ∧ T_impl_areNames a = some v := by
  rw [e_T_spec_l17Names, e_T_impl_areNames, l_implNames h, l_specNames h]
  rcases each_nm h with h1 | h1 <;> rw [h1]
  · exact ⟨true, rfl, rfl⟩
  · exact ⟨false, rfl, rfl⟩
theorem x_isDaemon (a : Int) : T_impl_isDaemon a = some (decide (1 ≤ a ∧ a ≤ 5)) := by
  rw [e_T_impl_isDaemon, (x_inRange _ _ _).2]; rfl
theorem x_SessionOk {a : Int} {b : List UInt8} {c : List UInt8} {d e : Bool} {f : List (List UInt8)} (h : (ET.pair (.int .i64) (.pair .str (.pair (.pair .str .bool) (.pair .bool (.sl false .str))))).small (a, b, (c, d), e, f)) : ∃ v, T_spec_SessionOk (a, b, (c, d), e, f) = some v ∧ T_impl_SessionOk (a, b, (c, d), e, f) = some v := by
  obtain ⟨h_a, h_b, ⟨h_c, h_d⟩, h_e, h_f⟩ := h
  obtain ⟨v, h1, h2⟩ := x_areNames h_f
  obtain ⟨w, h3, h4⟩ := x_NameOk (small_len h_b)
  have h5 : ((f.length : Int) == 0) = (!decide (0 < (f.length : Int))) := by
    cases f with
    | nil => rfl
    | cons x l => simp; omega
  rw [e_T_spec_SessionOk, e_T_impl_SessionOk]
  simp only [bif_bind, h1, h2, h3, h4, (x_inRange _ _ _).1, x_isDaemon, Option.bind_some, Sum.elim_inl, Sum.elim_inr, h5]
  clear h1 h2 h3 h4 h_a h_b h_c h_d h_e h_f
  generalize decide (0 < (f.length : Int)) = z
  generalize decide (6 < (f.length : Int)) = z6
  generalize decide ((1 : Int) ≤ a ∧ a ≤ 5) = p
  generalize (b == []) = q1, (c == []) = q2, (decide (63 < (c.length : Int))) = q5
  revert v w z z6 p q1 q2 q5 d e
  decide +kernel
theorem law_FnExactSessionOk (x : (ET.pair (.int .i64) (.pair .str (.pair (.pair .str .bool) (.pair .bool (.sl false .str))))).den) (h : (ET.pair (.int .i64) (.pair .str (.pair (.pair .str .bool) (.pair .bool (.sl false .str))))).ok x) : T_laws_FnExactSessionOk x = some true := by
  obtain ⟨r, h1, h2, h3⟩ := z_szSession x 1048576 h (by decide) (by decide)
  obtain ⟨a, b, ⟨c, d⟩, e, f⟩ := x
  rw [e_T_laws_FnExactSessionOk, h1]
  simp only [Option.bind_some]
  by_cases hr : r < 0
  · simp [hr]
  · have hs := h3 (by omega)
    obtain ⟨v, h4, h5⟩ := x_SessionOk hs
    simp only [hr, decide_false, cond_false, c_toSession hs, Option.bind_some, h4, h5, q_eqSession hs, beq_self_eq_true, Bool.not_true]
end Xs
end Go.Proofs.Ytfepabohinkpgaa
