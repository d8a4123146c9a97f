/- What the reference's function answers, and the program's: the same. -/
import Derived.Test.YtainknkfjekngaaDoorT10
import Derived.Test.YtainknkfjekngaaDoorXKpE
namespace Go.Proofs.YtainknkfjekngaaDoor
open Go Vm
set_option linter.unusedVariables false
set_option linter.unusedSimpArgs false
namespace Xs
theorem zm_szStringS : SzOkM (.sl false .str) T_laws_szStringS :=
  szm_sl (e := .str) (fun y b => some (IntKind.i64.wrap (b - (y.length : Int)))) e_T_laws_szStringS e_L_laws_szStringS_1 szm_str
theorem z_szStringS : SzOk (.sl false .str) T_laws_szStringS := zm_szStringS.sz
theorem zm_szGroup : SzOkM (.pair .str (.sl false .str)) T_laws_szGroup := by
  rintro ⟨a, b⟩ n ⟨h_a, h_b⟩ h0 hn
  show SzM n (fun left_ => ET.ms (.pair .str (.sl false .str)) (a, b) ≤ n - left_) _
  rw [e_T_laws_szGroup]
  refine SzM.str h_a (by omega) (by omega) (by omega) fun p1 w1 => ?_
  try rw [w1]
  refine SzM.call zm_szStringS h_b (by omega) (by omega) (by omega) fun r2 p2 q2 s2 => ?_
  refine SzM.fin (by omega) ?_
  try simp -implicitDefEqProofs only [ms_pair, ms_int, ms_bool, ms_str] at s2
  try simp -implicitDefEqProofs only [ms_pair, ms_int, ms_bool, ms_str]
  omega
theorem z_szGroup : SzOk (.pair .str (.sl false .str)) T_laws_szGroup := zm_szGroup.sz
theorem zm_szGroupS : SzOkM (.sl false (.pair .str (.sl false .str))) T_laws_szGroupS :=
  szm_sl (e := (.pair .str (.sl false .str))) (fun y b => T_laws_szGroup (y, b)) e_T_laws_szGroupS e_L_laws_szGroupS_1 zm_szGroup
theorem z_szGroupS : SzOk (.sl false (.pair .str (.sl false .str))) T_laws_szGroupS := zm_szGroupS.sz
theorem zm_szTable : SzOkM (.sl false (.pair .str (.sl false .str))) T_laws_szTable := by
  rintro a n h_a h0 hn
  show SzM n (fun left_ => ET.ms (.sl false (.pair .str (.sl false .str))) a ≤ n - left_) _
  rw [e_T_laws_szTable]
  refine SzM.call zm_szGroupS h_a (by omega) (by omega) (by omega) fun r1 p1 q1 s1 => ?_
  refine SzM.fin (by omega) ?_
  try simp -implicitDefEqProofs only [ms_pair, ms_int, ms_bool, ms_str] at s1
  try simp -implicitDefEqProofs only [ms_pair, ms_int, ms_bool, ms_str]
  omega
theorem z_szTable : SzOk (.sl false (.pair .str (.sl false .str))) T_laws_szTable := zm_szTable.sz
theorem c_toStringS {a : (ET.sl false (.str)).den} (h : (ET.sl false (.str)).small a) : T_laws_toStringS a = some a := by
  have h1 : a.length ≤ 1048576 := h.1
  refine to_sl (L := L_laws_toStringS_1) [] h1 ?_ (fun n b i y hy hi => ?_) (fun n b => ?_)
  · rw [e_T_laws_toStringS, if_pos ⟨by omega, rfl, by omega, by omega⟩]; rfl
  · have hlt := (List.getElem?_eq_some_iff.1 hy).1
    rw [e_L_laws_toStringS_1]
    simp only [show ((i : Int) < (a.length : Int)) by omega, decide_true, cond_true, Int.natCast_nonneg, if_true, Int.toNat_natCast, hy, Option.bind_some, hi, List.getElem?_eq_getElem hi]
    rw [wrap_ok (by omega) (by omega)]
  · rw [e_L_laws_toStringS_1]; simp
theorem c_toGroup {x : (ET.pair .str (.sl false .str)).den} (h : (ET.pair .str (.sl false .str)).small x) : T_laws_toGroup x = some x := by
  obtain ⟨a, b⟩ := x
  obtain ⟨h_a, h_b⟩ := h
  simp only [e_T_laws_toGroup, c_toStringS h_b, Option.bind_some]
theorem c_toGroupS {a : (ET.sl false (.pair .str (.sl false .str))).den} (h : (ET.sl false (.pair .str (.sl false .str))).small a) : T_laws_toGroupS a = some a := by
  have h1 : a.length ≤ 1048576 := h.1
  refine to_sl (L := L_laws_toGroupS_1) ([], []) h1 ?_ (fun n b i y hy hi => ?_) (fun n b => ?_)
  · rw [e_T_laws_toGroupS, if_pos ⟨by omega, rfl, by omega, by omega⟩]; rfl
  · have hlt := (List.getElem?_eq_some_iff.1 hy).1
    rw [e_L_laws_toGroupS_1]
    simp only [show ((i : Int) < (a.length : Int)) by omega, decide_true, cond_true, Int.natCast_nonneg, if_true, Int.toNat_natCast, hy, Option.bind_some, hi, List.getElem?_eq_getElem hi, c_toGroup (h.2 y (List.mem_of_getElem? hy))]
    rw [wrap_ok (by omega) (by omega)]
  · rw [e_L_laws_toGroupS_1]; simp
theorem c_toTable {a : (ET.sl false (.pair .str (.sl false .str))).den} (h_a : (ET.sl false (.pair .str (.sl false .str))).small a) : T_laws_toTable a = some a := by
  simp only [e_T_laws_toTable, c_toGroupS h_a, Option.bind_some]
theorem c_toIntS {a : (ET.sl false (.int .i64)).den} (h : (ET.sl false (.int .i64)).small a) : T_laws_toIntS a = some a := by
  have h1 : a.length ≤ 1048576 := h.1
  refine to_sl (L := L_laws_toIntS_1) 0 h1 ?_ (fun n b i y hy hi => ?_) (fun n b => ?_)
  · rw [e_T_laws_toIntS, if_pos ⟨by omega, rfl, by omega, by omega⟩]; rfl
  · have hlt := (List.getElem?_eq_some_iff.1 hy).1
    rw [e_L_laws_toIntS_1]
    simp only [show ((i : Int) < (a.length : Int)) by omega, decide_true, cond_true, Int.natCast_nonneg, if_true, Int.toNat_natCast, hy, Option.bind_some, hi, List.getElem?_eq_getElem hi]
    rw [wrap_ok (by omega) (by omega)]
  · rw [e_L_laws_toIntS_1]; simp
theorem q_eqStringS {a : (ET.sl false (.str)).den} (h : (ET.sl false (.str)).small a) : T_laws_eqStringS (a, a) = some true := by
  have h1 : a.length ≤ 1048576 := h.1
  rw [e_T_laws_eqStringS, eq_sl (L := L_laws_eqStringS_1) (Nat.le_trans h1 (by decide)) (fun n i y hy => ?_) (fun n => ?_)]
  · simp
  · have hlt := (List.getElem?_eq_some_iff.1 hy).1
    rw [e_L_laws_eqStringS_1]
    simp only [show ((i : Int) < (a.length : Int)) by omega, decide_true, cond_true, Int.natCast_nonneg, if_true, Int.toNat_natCast, hy, Option.bind_some, beq_self_eq_true, Bool.not_true, cond_false]
    rw [wrap_ok (by omega) (by omega)]
  · rw [e_L_laws_eqStringS_1]; simp
theorem q_eqGroup {x : (ET.pair .str (.sl false .str)).den} (h : (ET.pair .str (.sl false .str)).small x) : T_laws_eqGroup (x, x) = some true := by
  obtain ⟨a, b⟩ := x
  obtain ⟨h_a, h_b⟩ := h
  simp only [e_T_laws_eqGroup, q_eqStringS h_b, Option.bind_some, beq_self_eq_true, Bool.not_true, cond_false]
theorem q_eqGroupS {a : (ET.sl false (.pair .str (.sl false .str))).den} (h : (ET.sl false (.pair .str (.sl false .str))).small a) : T_laws_eqGroupS (a, a) = some true := by
  have h1 : a.length ≤ 1048576 := h.1
  rw [e_T_laws_eqGroupS, eq_sl (L := L_laws_eqGroupS_1) (Nat.le_trans h1 (by decide)) (fun n i y hy => ?_) (fun n => ?_)]
  · simp
  · have hlt := (List.getElem?_eq_some_iff.1 hy).1
    rw [e_L_laws_eqGroupS_1]
    simp only [show ((i : Int) < (a.length : Int)) by omega, decide_true, cond_true, Int.natCast_nonneg, if_true, Int.toNat_natCast, hy, Option.bind_some, beq_self_eq_true, Bool.not_true, cond_false, q_eqGroup (h.2 y (List.mem_of_getElem? hy))]
    rw [wrap_ok (by omega) (by omega)]
  · rw [e_L_laws_eqGroupS_1]; simp
theorem q_eqTable {a : (ET.sl false (.pair .str (.sl false .str))).den} (h_a : (ET.sl false (.pair .str (.sl false .str))).small a) : T_laws_eqTable (a, a) = some true := by
  simp only [e_T_laws_eqTable, q_eqGroupS h_a, Option.bind_some, beq_self_eq_true, Bool.not_true, cond_false]
theorem q_eqIntS {a : (ET.sl false (.int .i64)).den} (h : (ET.sl false (.int .i64)).small a) : T_laws_eqIntS (a, a) = some true := by
  have h1 : a.length ≤ 1048576 := h.1
  rw [e_T_laws_eqIntS, eq_sl (L := L_laws_eqIntS_1) (Nat.le_trans h1 (by decide)) (fun n i y hy => ?_) (fun n => ?_)]
  · simp
  · have hlt := (List.getElem?_eq_some_iff.1 hy).1
    rw [e_L_laws_eqIntS_1]
    simp only [show ((i : Int) < (a.length : Int)) by omega, decide_true, cond_true, Int.natCast_nonneg, if_true, Int.toNat_natCast, hy, Option.bind_some, beq_self_eq_true, Bool.not_true, cond_false]
    rw [wrap_ok (by omega) (by omega)]
  · rw [e_L_laws_eqIntS_1]; simp
theorem small_len {s : List UInt8} (h : ET.str.small s) : s.length ≤ maxLen := Nat.le_trans h (by decide)
theorem smallL_len {e : ET} {o : Bool} {s : List e.den} (h : (ET.sl o e).small s) : s.length ≤ maxLen := Nat.le_trans h.1 (by decide)
theorem x_inRange (a b c : Int) : T_spec_l01In (a, b, c) = some (decide (b ≤ a ∧ a ≤ c)) ∧ T_impl_inRange (a, b, c) = some (decide (b ≤ a ∧ a ≤ c)) := by
  rw [e_T_spec_l01In, e_T_impl_inRange]
  by_cases h : b ≤ a <;> simp [h]
/-- A name's step, as the reference has it. -/
def nameS (i : Nat) (y : UInt8) (_ : Unit) : Option (Unit ⊕ Bool) :=
  some (if (97 ≤ (y.toNat : Int) ∧ (y.toNat : Int) ≤ 122) ∨ (¬ i = 0 ∧ 48 ≤ (y.toNat : Int) ∧ (y.toNat : Int) ≤ 57) then .inl () else .inr false)
theorem getD_of {a : List UInt8} {i : Nat} {y : UInt8} (h : a[i]? = some y) (d : UInt8) : a.getD i d = y := by simp [List.getD_eq_getElem?_getD, h]
theorem w1 : IntKind.i64.wrap 1 = 1 := by decide +kernel
theorem l_implName {a : List UInt8} (h : a.length ≤ maxLen) : L_impl_NameOk_1 fuel (a, 0) = (each nameS 0 a ()).bind (Sum.elim (fun _ => some (.inl a)) fun r => some (.inr r)) := by
  refine each_loop (L := L_impl_NameOk_1) a (fun (_ : Unit) c => (a, c)) (fun _ => a) nameS (fun n s i y hy => ?_) (fun n s => ?_) h ()
  · have hlt := (List.getElem?_eq_some_iff.1 hy).1
    rw [maxLen_eq] at h
    rw [e_L_impl_NameOk_1]
    simp only [show ((i : Int) < (a.length : Int)) by omega, decide_true, cond_true, Int.natCast_nonneg, if_true, Int.toNat_natCast, getD_of hy, wrap_ok (n := (i : Int) + 1) (by omega) (by omega), nameS, ← Int.not_le, decide_not]
    have i0 : ¬ i = 0 → ((i : Int) == 0) = false := fun h => by simp [h]
    by_cases h1 : (97 : Int) ≤ y.toNat <;> by_cases h2 : (y.toNat : Int) ≤ 122 <;> by_cases h3 : i = 0 <;> by_cases h4 : (48 : Int) ≤ y.toNat <;> by_cases h5 : (y.toNat : Int) ≤ 57 <;> simp [h1, h2, h3, h4, h5, (List.getElem?_eq_some_iff.1 hy).2, hlt, Nat.not_le.2 hlt, wrap_ok (n := (i : Int) + 1) (by omega) (by omega), w1, i0, -Int.not_le]
  · rw [e_L_impl_NameOk_1]; simp
theorem l_specName {a : List UInt8} (h : a.length ≤ maxLen) (h0 : ∃ y, a[0]? = some y ∧ (97 : Int) ≤ y.toNat ∧ (y.toNat : Int) ≤ 122) : L_spec_NameOk_1 fuel (a, 0) = (each nameS 0 a ()).bind (Sum.elim (fun _ => some (.inl ())) fun r => some (.inr r)) := by
  refine each_loop (L := L_spec_NameOk_1) a (fun (_ : Unit) c => (a, c)) (fun _ => ()) nameS (fun n s i y hy => ?_) (fun n s => ?_) h ()
  · have hlt := (List.getElem?_eq_some_iff.1 hy).1
    rw [maxLen_eq] at h
    rw [e_L_spec_NameOk_1]
    simp only [show ((i : Int) < (a.length : Int)) by omega, decide_true, cond_true, Int.natCast_nonneg, if_true, Int.toNat_natCast, getD_of hy, wrap_ok (n := (i : Int) + 1) (by omega) (by omega), nameS, ← Int.not_le, decide_not]
    by_cases h3 : i = 0
    · subst h3
      obtain ⟨z, hz, h1, h2⟩ := h0
      rw [hy] at hz; cases hz
      simp [h1, h2, (List.getElem?_eq_some_iff.1 hy).2, w1, hlt, -Int.not_le]
    · have i0 : ((i : Int) == 0) = false := by simp [h3]
      by_cases h1 : (97 : Int) ≤ y.toNat <;> by_cases h2 : (y.toNat : Int) ≤ 122 <;> by_cases h4 : (48 : Int) ≤ y.toNat <;> by_cases h5 : (y.toNat : Int) ≤ 57 <;> simp [h1, h2, h3, h4, h5, (List.getElem?_eq_some_iff.1 hy).2, hlt, Nat.not_le.2 hlt, wrap_ok (n := (i : Int) + 1) (by omega) (by omega), w1, i0, -Int.not_le]
  · rw [e_L_spec_NameOk_1]; simp
theorem each_name (l : List UInt8) (i : Nat) : each nameS i l () = some (.inl ()) ∨ each nameS i l () = some (.inr false) := by
  induction l generalizing i with
  | nil => exact .inl rfl
  | cons y l ih =>
    simp only [each, nameS]
    split
    · exact ih (i + 1)
    · exact .inr rfl
theorem x_NameOk {a : List UInt8} (h : a.length ≤ maxLen) : ∃ b, T_spec_NameOk a = some b ∧ T_impl_NameOk a = some b := by
  rw [e_T_spec_NameOk, e_T_impl_NameOk, l_implName h]
  simp only [(x_inRange _ _ _).1, Option.bind_some]
  by_cases hr : (1 : Int) ≤ a.length ∧ (a.length : Int) ≤ 12
  · obtain ⟨y, hy⟩ : ∃ y, a[0]? = some y := ⟨a[0]'(by omega), List.getElem?_eq_getElem (by omega)⟩
    simp only [hr, and_self, decide_true, Bool.not_true, cond_false, show (0 : Int) < a.length by omega, if_true, getD_of hy]
    by_cases h0 : (97 : Int) ≤ y.toNat ∧ (y.toNat : Int) ≤ 122
    · rw [show decide ((y.toNat : Int) < 97) = false by simp; omega, show decide (122 < (y.toNat : Int)) = false by simp; omega]
      simp only [cond_false, Option.bind_some, Sum.elim_inl, l_specName h ⟨y, hy, h0⟩]
      rcases each_name a 0 with h1 | h1 <;> rw [h1] <;> simp [(x_inRange _ _ _).2, hr]
    · have h1 : each nameS 0 a () = some (.inr false) := by
        match a, hy with
        | z :: l, hy =>
          simp at hy; subst hy
          simp [each, nameS, h0]
      rw [h1]
      refine ⟨false, ?_, rfl⟩
      by_cases h2 : (y.toNat : Int) < 97
      · simp [h2]
      · have h3 : (122 : Int) < y.toNat := by omega
        simp [h2, h3]
  · refine ⟨false, by simp [hr], ?_⟩
    rcases each_name a 0 with h1 | h1 <;> rw [h1] <;> simp only [(x_inRange _ _ _).2, hr, Option.bind_some, Sum.elim_inl, Sum.elim_inr, decide_false]
/-- A step along names: right, and above the one ahead. -/
noncomputable def nmS (a : List (List UInt8)) (i : Nat) (y : List UInt8) (_ : Unit) : Option (Unit ⊕ Bool) :=
  (T_impl_NameOk y).bind fun r => bif !r then some (.inr false) else bif decide (0 < i) then a[i - 1]?.bind fun z => some (bif Op.bytesLess y z || y == z then .inr false else .inl ()) else some (.inl ())
theorem l_nm {σ : Type} {L : Nat → σ → Option (Unit ⊕ Bool)} {a : List (List UInt8)} (st : Int → σ) (h : (ET.sl false .str).small a) (hL : ∀ n (i : Nat) y, a[i]? = some y → (i : Int) < a.length → IntKind.i64.wrap ((i : Int) + 1) = i + 1 → (0 < i → IntKind.i64.wrap ((i : Int) - 1) = ((i - 1 : Nat) : Int)) → T_spec_NameOk y = T_impl_NameOk y →
    L (n + 1) (st i) = (nmS a i y ()).bind (Sum.elim (fun _ => L n (st ((i : Int) + 1))) fun r => some (.inr r))) (hE : ∀ n, L (n + 1) (st a.length) = some (.inl ())) : L fuel (st 0) = each (nmS a) 0 a () := by
  have hl : a.length ≤ 1048576 := h.1
  rw [each_loop (L := L) a (fun (_ : Unit) c => st c) (fun _ => ()) (nmS a) (fun n s i y hy => ?_) (fun n s => hE n) (by rw [maxLen_eq]; omega) ()]
  · cases each (nmS a) 0 a () with
    | none => rfl
    | some q => cases q <;> rfl
  · have hlt := (List.getElem?_eq_some_iff.1 hy).1
    obtain ⟨b, h1, h2⟩ := x_NameOk (a := y) (Nat.le_trans (h.2 y (List.mem_of_getElem? hy)) (by decide))
    exact hL n i y hy (by omega) (wrap_ok (by omega) (by omega)) (fun h0 => by rw [wrap_ok (by omega) (by omega)]; omega) (by rw [h1, h2])
theorem each_nm {a : List (List UInt8)} (h : (ET.sl false .str).small a) : each (nmS a) 0 a () = some (.inl ()) ∨ each (nmS a) 0 a () = some (.inr false) := by
  rcases each_rule (step := nmS a) (fun _ _ => True) (fun r => r = false) a 0 () trivial (fun i y s hy _ => by
    rw [Nat.zero_add]
    obtain ⟨b, _, h2⟩ := x_NameOk (a := y) (Nat.le_trans (h.2 y (List.mem_of_getElem? hy)) (by decide))
    have hlt := (List.getElem?_eq_some_iff.1 hy).1
    simp only [nmS, h2, Option.bind_some]
    cases b with
    | false => exact .inr ⟨false, rfl, rfl⟩
    | true =>
      by_cases h0 : 0 < i
      · rw [List.getElem?_eq_getElem (show i - 1 < a.length by omega)]
        simp only [h0, decide_true, cond_true, Bool.not_true, cond_false, Option.bind_some]
        cases Op.bytesLess y a[i - 1] || y == a[i - 1]
        · exact .inl ⟨(), rfl, trivial⟩
        · exact .inr ⟨false, rfl, rfl⟩
      · exact .inl ⟨(), by simp only [h0, decide_false, Bool.not_true, cond_false], trivial⟩) with ⟨s, h1, _⟩ | ⟨r, h1, rfl⟩
  · exact .inl h1
  · exact .inr h1
/-- A number's bytes: seven bits each, the low ones first. -/
def vEnc (n : Nat) : List UInt8 := if 127 < n then UInt8.ofNat (n % 128 + 128) :: vEnc (n / 128) else [UInt8.ofNat n]
theorem vEnc_hi {n : Nat} (h : 127 < n) : vEnc n = UInt8.ofNat (n % 128 + 128) :: vEnc (n / 128) := by rw [vEnc, if_pos h]
theorem vEnc_lo {n : Nat} (h : n ≤ 127) : vEnc n = [UInt8.ofNat n] := by rw [vEnc, if_neg (by omega)]
theorem u8w {n : Int} (h0 : 0 ≤ n) (h1 : n < 256) : IntKind.u8.wrap n = n := by
  rw [IntKind.wrap_u8]; omega
theorem vEnc_len : ∀ n : Nat, (vEnc n).length ≤ n + 1 := by
  intro n
  induction n using Nat.strongRecOn with
  | _ n ih =>
    by_cases h : 127 < n
    · rw [vEnc_hi h]
      have := ih (n / 128) (by omega)
      simp only [List.length_cons]; omega
    · rw [vEnc_lo (by omega)]; simp
/-- A number off the front of bytes. -/
def rvS : Nat → Nat → Nat → Nat → List UInt8 → Option (Nat × Nat)
  | 0, _, _, _, _ => none
  | _ + 1, _, _, _, [] => none
  | k + 1, i, acc, m, c :: t => if c.toNat < 128 then (if (c.toNat = 0 ∧ 0 < i) ∨ 1000000000 < acc + c.toNat * m then none else some (acc + c.toNat * m, i + 1))
    else rvS k (i + 1) (acc + (c.toNat - 128) * m) (m * 128) t
/-- How it is told: the number, where it ends, whether it is right. -/
def outV (b : Nat) : Option (Nat × Nat) → Int × Int × Bool
  | none => (0, 0, false)
  | some (v, n) => ((v : Int), ((b + n : Nat) : Int), true)
theorem getD_at {a : List UInt8} {i : Nat} (h : i < a.length) : a.getD i 0 = a[i] := by simp [List.getD_eq_getElem?_getD, h]
theorem u8lt (c : UInt8) : c.toNat < 256 := c.toNat_lt
theorem rvS_bound : ∀ (k i acc m : Nat) (t : List UInt8) (v n : Nat), rvS k i acc m t = some (v, n) → v ≤ 1000000000 ∧ i < n ∧ n ≤ i + t.length
  | 0, _, _, _, _, _, _, h => by simp [rvS] at h
  | _ + 1, _, _, _, [], _, _, h => by simp [rvS] at h
  | k + 1, i, acc, m, c :: t, v, n, h => by
    simp only [rvS] at h
    split at h
    · split at h
      · cases h
      · cases h; simp; omega
    · have := rvS_bound k _ _ _ t v n h
      simp; omega
/-- What bytes tell, if they are right: the value of the bytes ahead of an end. -/
def vVal : List UInt8 → Nat
  | [] => 0
  | c :: t => c.toNat % 128 + 128 * vVal t
/-- Bytes that are a number's, but for the last one's being 0. -/
def vFit : List UInt8 → Prop
  | [] => False
  | [c] => c.toNat < 128
  | c :: t => 128 ≤ c.toNat ∧ vFit t
theorem vFit_cons {c : UInt8} {t : List UInt8} (h : t ≠ []) : vFit (c :: t) ↔ 128 ≤ c.toNat ∧ vFit t := by
  cases t with
  | nil => exact absurd rfl h
  | cons x l => exact Iff.rfl
theorem vEnc_ne (n : Nat) : vEnc n ≠ [] := by
  by_cases h : 127 < n
  · rw [vEnc_hi h]; simp
  · rw [vEnc_lo (by omega)]; simp
theorem byte_of {c : UInt8} {n : Nat} (h : c.toNat = n) : UInt8.ofNat n = c := by rw [← h]; simp
theorem vEnc_last : ∀ (n : Nat), ∃ l c, vEnc n = l ++ [c] ∧ (l ≠ [] → c.toNat ≠ 0) := by
  intro n
  induction n using Nat.strongRecOn with
  | _ n ih =>
    by_cases h : 127 < n
    · obtain ⟨l, c, h1, h2⟩ := ih (n / 128) (by omega)
      rw [vEnc_hi h]
      refine ⟨UInt8.ofNat (n % 128 + 128) :: l, c, by rw [h1]; rfl, fun _ => ?_⟩
      by_cases hl : l = []
      · subst hl
        by_cases h3 : 127 < n / 128
        · rw [vEnc_hi h3] at h1
          have := vEnc_ne (n / 128 / 128)
          simp at h1
          exact absurd h1.2 this
        · rw [vEnc_lo (by omega)] at h1
          simp at h1
          rw [← h1]
          simp; omega
      · exact h2 hl
    · rw [vEnc_lo (by omega)]
      exact ⟨[], _, rfl, fun h => absurd rfl h⟩
/-- Right bytes are those that their value's are. -/
theorem vEnc_val : ∀ (t : List UInt8), vFit t → (t.length = 1 ∨ t.getLast?.map UInt8.toNat ≠ some 0) → vEnc (vVal t) = t ∧ (1 < t.length → 0 < vVal t)
  | [], h, _ => h.elim
  | [c], h, _ => by
    have h' : c.toNat < 128 := h
    simp only [vVal, Nat.mul_zero, Nat.add_zero]
    rw [Nat.mod_eq_of_lt h', vEnc_lo (by omega)]
    exact ⟨by rw [byte_of rfl], fun h => by simp at h⟩
  | c :: d :: t, h, hl => by
    obtain ⟨h1, h2⟩ := (vFit_cons (by simp)).1 h
    have hl' : (d :: t).getLast?.map UInt8.toNat ≠ some 0 := by
      rcases hl with hl | hl
      · simp at hl
      · simpa using hl
    obtain ⟨h3, h4⟩ := vEnc_val (d :: t) h2 (.inr hl')
    have hp : 0 < vVal (d :: t) := by
      cases t with
      | nil =>
        simp at hl'
        have h5 : d.toNat < 128 := h2
        simp only [vVal]; omega
      | cons x l => exact h4 (by simp)
    have hc := u8lt c
    simp only [vVal] at hp ⊢
    rw [vEnc_hi (by omega)]
    refine ⟨?_, fun _ => by omega⟩
    rw [show (c.toNat % 128 + 128 * (d.toNat % 128 + 128 * vVal t)) / 128 = d.toNat % 128 + 128 * vVal t by omega]
    rw [show vEnc (d.toNat % 128 + 128 * vVal t) = d :: t from h3, byte_of (c := c) (by omega)]
theorem vEnc_fit : ∀ n : Nat, vFit (vEnc n) ∧ vVal (vEnc n) = n := by
  intro n
  induction n using Nat.strongRecOn with
  | _ n ih =>
    by_cases h : 127 < n
    · obtain ⟨h1, h2⟩ := ih (n / 128) (by omega)
      rw [vEnc_hi h]
      have hb : (UInt8.ofNat (n % 128 + 128)).toNat = n % 128 + 128 := by simp; omega
      refine ⟨(vFit_cons (vEnc_ne _)).2 ⟨by omega, h1⟩, ?_⟩
      simp only [vVal, h2, hb]; omega
    · rw [vEnc_lo (by omega)]
      have hb : (UInt8.ofNat n).toNat = n := by simp; omega
      refine ⟨by simp only [vFit, hb]; omega, ?_⟩
      simp only [vVal, hb]; omega
theorem vVal_app : ∀ (p : List UInt8) (c : UInt8), vVal (p ++ [c]) = vVal p + c.toNat % 128 * 128 ^ p.length
  | [], c => by simp [vVal]
  | x :: p, c => by
    simp only [List.cons_append, vVal, vVal_app p c, List.length_cons, Nat.pow_succ]
    rw [Nat.mul_add, Nat.add_assoc, Nat.mul_comm (128 ^ p.length) 128, ← Nat.mul_assoc, ← Nat.mul_assoc, Nat.mul_comm (c.toNat % 128) 128]
theorem vFit_app : ∀ (p : List UInt8) (c : UInt8), (∀ x ∈ p, 128 ≤ x.toNat) → c.toNat < 128 → vFit (p ++ [c])
  | [], c, _, h => h
  | x :: p, c, hp, h => by
    rw [List.cons_append]
    exact (vFit_cons (by simp)).2 ⟨hp x (by simp), vFit_app p c (fun y hy => hp y (by simp [hy])) h⟩
theorem v_canon {p : List UInt8} {c : UInt8} (hp : ∀ x ∈ p, 128 ≤ x.toNat) (hc : c.toNat < 128) : (vEnc (vVal (p ++ [c])) == p ++ [c]) = !decide (c.toNat = 0 ∧ 0 < p.length) := by
  by_cases h : c.toNat = 0 ∧ 0 < p.length
  · rw [decide_eq_true h]
    obtain ⟨l, d, h1, h2⟩ := vEnc_last (vVal (p ++ [c]))
    rw [Bool.not_true, beq_eq_false_iff_ne]
    intro he
    rw [h1] at he
    have h3 := List.append_inj' he rfl
    have h4 : d = c := by simpa using h3.2
    subst h4
    exact h2 (fun hl => by rw [h3.1] at hl; subst hl; simp at h) h.1
  · rw [decide_eq_false h]
    have := (vEnc_val (p ++ [c]) (vFit_app p c hp hc) (by
      by_cases hl : p = []
      · subst hl; exact .inl rfl
      · refine .inr ?_
        have : 0 < p.length := by cases p with | nil => exact absurd rfl hl | cons => simp
        simp; omega)).1
    rw [this]; simp
/-- What is read is what its number's bytes are. -/
theorem rvS_enc : ∀ (k i acc m : Nat) (t p : List UInt8), k + i = 5 → p.length = i → (∀ x ∈ p, 128 ≤ x.toNat) → acc = vVal p → m = 128 ^ i → ∀ v n, rvS k i acc m t = some (v, n) → ∃ q, t = q ++ t.drop (n - i) ∧ q.length = n - i ∧ p ++ q = vEnc v
  | 0, _, _, _, _, _, _, _, _, _, _, v, n, h => by simp [rvS] at h
  | _ + 1, _, _, _, [], _, _, _, _, _, _, v, n, h => by simp [rvS] at h
  | k + 1, i, acc, m, c :: t, p, hk, hpl, hp, hv, hm, v, n, h => by
    simp only [rvS] at h
    split at h
    · rename_i hs
      split at h
      · cases h
      · rename_i hz
        cases h
        refine ⟨[c], by simp, by simp, ?_⟩
        have h1 : vVal (p ++ [c]) = acc + c.toNat * m := by rw [vVal_app, Nat.mod_eq_of_lt hs, hpl, ← hm, hv]
        have h2 := v_canon hp hs
        rw [decide_eq_false (by rw [hpl]; omega), Bool.not_false, beq_iff_eq, h1] at h2
        exact h2.symm
    · rename_i hs
      have hc := u8lt c
      obtain ⟨q, h1, h2, h3⟩ := rvS_enc k (i + 1) _ _ t (p ++ [c]) (by omega) (by simp [hpl]) (fun x hx => by
        rcases List.mem_append.1 hx with hx | hx
        · exact hp x hx
        · simp at hx; subst hx; omega) (by rw [vVal_app, hpl, ← hm, hv, show c.toNat % 128 = c.toNat - 128 by omega]) (by rw [hm, Nat.pow_succ]) v n h
      have hn := (rvS_bound _ _ _ _ _ _ _ h).2.1
      refine ⟨c :: q, ?_, by simp; omega, by rw [← h3]; simp⟩
      rw [show n - i = (n - (i + 1)) + 1 by omega, List.drop_succ_cons, List.cons_append, ← h1]
theorem digs_len : ∀ (k u : Nat), u < 10 ^ (k + 1) → (Lib.decDigits u).length ≤ k + 1
  | 0, u, h => by rw [Lib.decDigits, dif_pos (by simpa using h)]; simp
  | k + 1, u, h => by
    rw [Lib.decDigits]
    split
    · simp
    · have := digs_len k (u / 10) (by rw [Nat.pow_succ] at h; omega)
      rw [List.length_append, List.length_singleton]; omega
theorem itoa_len {a : Int} (h0 : -9223372036854775808 ≤ a) (h1 : a ≤ 9223372036854775807) : (Lib.itoa a).length ≤ 20 := by
  have hp : (10 : Nat) ^ 19 = 10000000000000000000 := by decide
  unfold Lib.itoa
  split
  · have := digs_len 18 a.natAbs (by omega)
    rw [List.length_cons]; omega
  · have := digs_len 18 a.toNat (by omega)
    omega
theorem v_implDecimal {a : Int} (h0 : -9223372036854775808 ≤ a) (h1 : a ≤ 9223372036854775807) : T_impl_Decimal a = some (Lib.itoa a) := by
  rw [e_T_impl_Decimal, T_strconv_Itoa, if_pos ⟨h0, h1⟩]; rfl
theorem nm_no35 : ∀ (l : List UInt8) (i : Nat), each nameS i l () = some (.inl ()) → ∀ y ∈ l, y ≠ 35
  | [], _, _, y, hy => by cases hy
  | z :: l, i, h, y, hy => by
    simp only [each, nameS] at h
    split at h
    · rename_i hz
      rcases List.mem_cons.1 hy with rfl | hy
      · intro e
        subst e
        have h35 : ((35 : UInt8).toNat : Int) = 35 := rfl
        rw [h35] at hz
        omega
      · exact nm_no35 l (i + 1) h y hy
    · cases h
theorem okName {a : List UInt8} (h : a.length ≤ maxLen) (hk : T_impl_NameOk a = some true) : ∀ y ∈ a, y ≠ 35 := by
  rw [e_T_impl_NameOk, l_implName h] at hk
  rcases each_name a 0 with h1 | h1
  · exact nm_no35 a 0 h1
  · rw [h1] at hk
    simp at hk
theorem ix_hit : ∀ (p q : List UInt8), (∀ y ∈ p, y ≠ 35) → Lib.index (p ++ 35 :: q) [35] = (p.length : Int)
  | [], q, _ => by rw [List.nil_append, Lib.index]; simp [List.isPrefixOf]
  | b :: p, q, h => by
    have hb : ¬ b = 35 := h b (by simp)
    have hp : ([35] : List UInt8).isPrefixOf (b :: (p ++ 35 :: q)) = false := by simp [List.isPrefixOf, Ne.symm hb]
    have ih := ix_hit p q (fun y hy => h y (by simp [hy]))
    rw [List.cons_append, Lib.index, hp, ih]
    have : ¬ ((p.length : Int) == -1) = true := fun e => by have := beq_iff_eq.1 e; omega
    simp only [Bool.false_eq_true, if_false, this, List.length_cons]
    omega
theorem spl3 {d : UInt8} {name : List UInt8} (hd : d ≠ 35) (hn : ∀ y ∈ name, y ≠ 35) : splK 35 (Lib.count (35 :: d :: 35 :: name) [35]) (35 :: d :: 35 :: name) = [[], [d], name] := by
  have hc : Lib.count (35 :: d :: 35 :: name) [35] = 2 := by
    rw [Lib.count_one, List.count_cons_self, List.count_cons_of_ne (by simpa using hd), List.count_cons_self, List.count_eq_zero.2 (fun h => hn 35 h rfl)]
  have i1 : Lib.index (35 :: d :: 35 :: name) [35] = ((0 : Nat) : Int) := ix_hit [] (d :: 35 :: name) (fun y hy => by cases hy)
  have i2 : Lib.index (d :: 35 :: name) [35] = ((1 : Nat) : Int) := ix_hit [d] name (fun y hy => by rw [List.mem_singleton.1 hy]; exact hd)
  rw [hc, splK, i1, if_neg (by decide)]
  simp only [Int.toNat_natCast, List.take_zero, Nat.zero_add, List.drop_succ_cons, List.drop_zero]
  rw [splK, i2, if_neg (by decide)]
  simp only [Int.toNat_natCast, List.take_succ_cons, List.take_zero, List.drop_succ_cons, List.drop_zero, splK]
theorem splK_len (c : UInt8) : ∀ (k : Nat) (s : List UInt8), (splK c k s).length ≤ k + 1 ∧ ∀ t ∈ splK c k s, t.length ≤ s.length
  | 0, s => ⟨by simp [splK], fun t ht => by simp [splK] at ht; rw [ht]; exact Nat.le_refl _⟩
  | k + 1, s => by
    rw [splK]
    split
    · exact ⟨by simp, fun t ht => by simp at ht; rw [ht]; exact Nat.le_refl _⟩
    · obtain ⟨h1, h2⟩ := splK_len c k (s.drop ((Lib.index s [c]).toNat + 1))
      refine ⟨by simp; omega, fun t ht => ?_⟩
      rcases List.mem_cons.1 ht with rfl | ht
      · rw [List.length_take]; omega
      · have := h2 t ht
        rw [List.length_drop] at this; omega
theorem l_RD {a : List UInt8} (ha : a.length ≤ 10) : ∀ (m i n b : Nat), m < n → i + m = a.length → b < 10 ^ i → (∃ b' : Nat, L_impl_ReadDecimal_1 n (a, (b : Int), (i : Int)) = some (.inl (a, (b' : Int))) ∧ b' < 10 ^ 10) ∨ L_impl_ReadDecimal_1 n (a, (b : Int), (i : Int)) = some (.inr (0, false))
  | 0, i, n, b, hn, hi, hb => by
    obtain ⟨n, rfl⟩ : ∃ j, n = j + 1 := ⟨n - 1, by omega⟩
    rw [e_L_impl_ReadDecimal_1, decide_eq_false (by omega), cond_false]
    exact .inl ⟨b, rfl, Nat.lt_of_lt_of_le hb (Nat.pow_le_pow_right (by decide) (by omega))⟩
  | m + 1, i, n, b, hn, hi, hb => by
    obtain ⟨n, rfl⟩ : ∃ j, n = j + 1 := ⟨n - 1, by omega⟩
    have hlt : i < a.length := by omega
    have hy : a[i]? = some a[i] := List.getElem?_eq_getElem hlt
    have hg : a.getD i 0 = a[i] := by simp [List.getD_eq_getElem?_getD, hy]
    have hc := u8lt a[i]
    have h10 : (10 : Nat) ^ i ≤ 10 ^ 9 := Nat.pow_le_pow_right (by decide) (by omega)
    have h9 : (10 : Nat) ^ 9 = 1000000000 := by decide
    have hw : IntKind.i64.wrap ((i : Int) + 1) = ((i + 1 : Nat) : Int) := by rw [wrap_ok (by omega) (by omega)]; omega
    rw [e_L_impl_ReadDecimal_1]
    simp only [show ((i : Int) < (a.length : Int)) by omega, decide_true, cond_true, Int.natCast_nonneg, if_true, Int.toNat_natCast, hg]
    by_cases h1 : ((a[i].toNat : Nat) : Int) < 48
    · simp only [h1, decide_true, cond_true, Option.bind_some, Sum.elim_inl]
      exact .inr trivial
    · by_cases h2 : (57 : Int) < ((a[i].toNat : Nat) : Int)
      · simp only [h1, h2, decide_true, decide_false, cond_true, cond_false, Option.bind_some, Sum.elim_inl]
        exact .inr trivial
      · simp only [h1, h2, decide_false, cond_false, Option.bind_some, Sum.elim_inl, show ((i : Int) < (a.length : Int)) by omega, Int.natCast_nonneg, if_true, Int.toNat_natCast, hg]
        have e1 : IntKind.i64.wrap (IntKind.i64.wrap ((b : Int) * 10) + IntKind.i64.wrap (IntKind.u8.wrap (((a[i].toNat : Nat) : Int) - 48))) = ((b * 10 + (a[i].toNat - 48) : Nat) : Int) := by
          rw [u8w (by omega) (by omega), wrap_ok (n := (b : Int) * 10) (by omega) (by omega), wrap_ok (n := ((a[i].toNat : Nat) : Int) - 48) (by omega) (by omega), wrap_ok (by omega) (by omega)]
          omega
        rw [e1, hw]
        exact l_RD ha m (i + 1) n _ (by omega) (by omega) (by rw [Nat.pow_succ]; omega)
theorem x_RD (t : List UInt8) (ht : t.length ≤ 1048576) : ∃ n ok, T_impl_ReadDecimal t = some (n, ok) := by
  rw [e_T_impl_ReadDecimal]
  by_cases h0 : t.length = 0
  · have : ((t.length : Int) == 0) = true := by rw [h0]; rfl
    rw [this]
    exact ⟨_, _, rfl⟩
  · have : ((t.length : Int) == 0) = false := beq_eq_false_iff_ne.2 (by omega)
    rw [this]
    simp only [cond_false, Option.bind_some, Sum.elim_inl]
    by_cases h10 : (10 : Int) < (t.length : Int)
    · rw [decide_eq_true h10]; exact ⟨_, _, rfl⟩
    · rw [decide_eq_false h10, cond_false]
      rcases l_RD (a := t) (by omega) t.length 0 fuel 0 (by simp only [fuel]; omega) (by omega) (by decide) with ⟨b', h1, h2⟩ | h1
      · rw [show ((0 : Nat) : Int) = (0 : Int) from rfl] at h1
        have hp : (10 : Nat) ^ 10 = 10000000000 := by decide
        rw [h1]
        simp only [Option.bind_some, Sum.elim_inl, v_implDecimal (a := (b' : Int)) (by omega) (by omega)]
        cases decide (1000000000 < (b' : Int)) with
        | true => exact ⟨_, _, rfl⟩
        | false =>
          simp only [cond_false, Option.bind_some, Sum.elim_inl]
          cases !(Lib.itoa (b' : Int) == t) <;> exact ⟨_, _, rfl⟩
      · rw [show ((0 : Nat) : Int) = (0 : Int) from rfl] at h1
        rw [h1]; exact ⟨_, _, rfl⟩
theorem itoa_one {d : Nat} (h : d < 10) : Lib.itoa (d : Int) = [UInt8.ofNat (48 + d)] := by
  unfold Lib.itoa
  rw [if_neg (by omega), Int.toNat_natCast]
  exact Lib.decDigits_one h
theorem rd_one {c : UInt8} (h1 : 49 ≤ c.toNat) (h2 : c.toNat ≤ 57) : T_impl_ReadDecimal [c] = some (((c.toNat - 48 : Nat) : Int), true) := by
  have hi : Lib.itoa ((c.toNat - 48 : Nat) : Int) = [c] := by
    rw [itoa_one (by omega), show 48 + (c.toNat - 48) = c.toNat by omega]; simp
  have hL : L_impl_ReadDecimal_1 fuel ([c], 0, 0) = some (.inl ([c], ((c.toNat - 48 : Nat) : Int))) := by
    rw [show fuel = 18446744073709551614 + 1 + 1 from rfl, e_L_impl_ReadDecimal_1]
    simp only [List.length_singleton, show ((0 : Int) < ((1 : Nat) : Int)) by decide, decide_true, cond_true, show (0 : Int) ≤ 0 by decide, if_true, show (0 : Int).toNat = 0 from rfl, List.getD_cons_zero, show ¬ ((c.toNat : Nat) : Int) < 48 by omega, show ¬ (57 : Int) < ((c.toNat : Nat) : Int) by omega, decide_false, cond_false, Option.bind_some, Sum.elim_inl]
    have e1 : IntKind.i64.wrap (IntKind.i64.wrap ((0 : Int) * 10) + IntKind.i64.wrap (IntKind.u8.wrap (((c.toNat : Nat) : Int) - 48))) = ((c.toNat - 48 : Nat) : Int) := by
      rw [u8w (by omega) (by omega), wrap_ok (n := (0 : Int) * 10) (by omega) (by omega), wrap_ok (n := ((c.toNat : Nat) : Int) - 48) (by omega) (by omega), wrap_ok (by omega) (by omega)]
      omega
    rw [e1, wrap_ok (n := (0 : Int) + 1) (by omega) (by omega), e_L_impl_ReadDecimal_1, decide_eq_false (by simp), cond_false]
  rw [e_T_impl_ReadDecimal, show ((([c] : List UInt8).length : Int) == 0) = false from rfl]
  simp only [cond_false, Option.bind_some, Sum.elim_inl]
  rw [decide_eq_false (by simp), cond_false, hL]
  simp only [Option.bind_some, Sum.elim_inl]
  rw [decide_eq_false (by omega), cond_false, v_implDecimal (by omega) (by omega), hi]
  simp only [Option.bind_some, beq_self_eq_true, Bool.not_true, Sum.elim_inl, cond_false]
theorem x_PN (d : Int) {t : List UInt8} (ht : t.length ≤ 1048576) : ∃ r, T_impl_PrivateName (d, t) = some r ∧ (r = [] ∨ (1 ≤ d ∧ d ≤ 9) ∧ T_impl_NameOk t = some true) ∧ ((1 ≤ d ∧ d ≤ 9) → T_impl_NameOk t = some true → r = 35 :: UInt8.ofNat (48 + d.toNat) :: 35 :: t) := by
  obtain ⟨b, _, h2⟩ := x_NameOk (a := t) (by rw [maxLen_eq]; omega)
  rw [e_T_impl_PrivateName, (x_inRange _ _ _).2]
  simp only [Option.bind_some]
  by_cases hd : 1 ≤ d ∧ d ≤ 9
  · rw [decide_eq_true hd]
    simp only [Bool.not_true, cond_false, h2, Option.bind_some, Sum.elim_inl]
    cases b with
    | false => exact ⟨[], rfl, .inl rfl, fun _ h => by cases h⟩
    | true =>
      obtain ⟨n, rfl⟩ : ∃ n : Nat, d = (n : Int) := ⟨d.toNat, by omega⟩
      simp only [Bool.not_true, cond_false, v_implDecimal (a := (n : Int)) (by omega) (by omega), Option.bind_some, itoa_one (show n < 10 by omega), List.length_cons, List.length_nil, List.length_append]
      rw [if_neg (by omega), if_neg (by omega), if_neg (by omega)]
      exact ⟨_, rfl, .inr ⟨hd, trivial⟩, fun _ _ => rfl⟩
  · rw [decide_eq_false hd]
    exact ⟨[], rfl, .inl rfl, fun h => absurd h hd⟩
theorem nm_pos {t : List UInt8} (h : T_spec_NameOk t = some true) : 1 ≤ t.length ∧ t.length ≤ 12 := by
  rw [e_T_spec_NameOk, (x_inRange _ _ _).1] at h
  by_cases hr : (1 : Int) ≤ t.length ∧ (t.length : Int) ≤ 12
  · omega
  · rw [decide_eq_false hr] at h
    simp at h
theorem sp_good {c : UInt8} {t : List UInt8} (h1 : 49 ≤ c.toNat) (h2 : c.toNat ≤ 57) (hn : T_spec_NameOk t = some true) : T_spec_SplitPrivate (35 :: c :: 35 :: t) = some (((c.toNat - 48 : Nat) : Int), t, true) := by
  have hl := nm_pos hn
  rw [e_T_spec_SplitPrivate]
  simp only [List.length_cons, List.getD_cons_zero, List.getD_cons_succ, List.drop_succ_cons, List.drop_zero, List.take_succ_cons, List.take_length]
  rw [decide_eq_false (by omega), cond_false, if_pos (by omega), show ((((35 : UInt8).toNat : Nat) : Int) == 35) = true from rfl]
  simp only [Bool.not_true, cond_false]
  rw [if_pos (by omega), if_pos (by omega), decide_eq_false (by omega), cond_false, if_pos (by omega), decide_eq_false (by omega), cond_false, if_pos (by omega), hn]
  simp only [Option.bind_some, Bool.not_true, Sum.elim_inl, cond_false, List.length_cons, List.getD_cons_zero, List.getD_cons_succ, List.drop_succ_cons, List.drop_zero, List.take_succ_cons, List.take_length]
  rw [if_pos (by omega), if_pos (by omega), wrap_ok (n := ((c.toNat : Nat) : Int)) (by omega) (by omega), wrap_ok (by omega) (by omega)]
  have : ((c.toNat : Nat) : Int) - 48 = ((c.toNat - 48 : Nat) : Int) := by omega
  rw [this]
theorem sp_total {a : List UInt8} (ha : a.length ≤ 1048576) : T_spec_SplitPrivate a = some (0, [], false) ∨ ∃ c t, a = 35 :: c :: 35 :: t ∧ 49 ≤ c.toNat ∧ c.toNat ≤ 57 ∧ T_spec_NameOk t = some true := by
  by_cases hl : (a.length : Int) < 4
  · left
    rw [e_T_spec_SplitPrivate, decide_eq_true hl]; rfl
  · match a, ha, hl with
    | [], _, hl => simp at hl
    | [_], _, hl => simp at hl
    | [_, _], _, hl => simp at hl
    | c0 :: c1 :: c2 :: t, ha, hl =>
      simp only [List.length_cons] at ha hl
      obtain ⟨b, hb, _⟩ := x_NameOk (a := t) (by rw [maxLen_eq]; omega)
      have u1 := u8lt c1
      by_cases h0 : c0 = 35
      · by_cases h2 : c2 = 35
        · by_cases h3 : ((c1.toNat : Nat) : Int) < 49
          · left
            subst h0 h2
            rw [e_T_spec_SplitPrivate]
            simp only [List.length_cons, List.getD_cons_zero, List.getD_cons_succ]
            rw [decide_eq_false (by omega), cond_false, if_pos (by omega), show ((((35 : UInt8).toNat : Nat) : Int) == 35) = true from rfl]
            simp only [Bool.not_true, cond_false]
            rw [if_pos (by omega), if_pos (by omega), decide_eq_true h3]; rfl
          · by_cases h4 : (57 : Int) < ((c1.toNat : Nat) : Int)
            · left
              subst h0 h2
              rw [e_T_spec_SplitPrivate]
              simp only [List.length_cons, List.getD_cons_zero, List.getD_cons_succ]
              rw [decide_eq_false (by omega), cond_false, if_pos (by omega), show ((((35 : UInt8).toNat : Nat) : Int) == 35) = true from rfl]
              simp only [Bool.not_true, cond_false]
              rw [if_pos (by omega), if_pos (by omega), decide_eq_false h3, cond_false, if_pos (by omega), decide_eq_true h4]; rfl
            · cases b with
              | true => exact .inr ⟨c1, t, by rw [h0, h2], by omega, by omega, hb⟩
              | false =>
                left
                subst h0 h2
                rw [e_T_spec_SplitPrivate]
                simp only [List.length_cons, List.getD_cons_zero, List.getD_cons_succ, List.drop_succ_cons, List.drop_zero, List.take_succ_cons, List.take_length]
                rw [decide_eq_false (by omega), cond_false, if_pos (by omega), show ((((35 : UInt8).toNat : Nat) : Int) == 35) = true from rfl]
                simp only [Bool.not_true, cond_false]
                rw [if_pos (by omega), if_pos (by omega), decide_eq_false h3, cond_false, if_pos (by omega), decide_eq_false h4, cond_false, if_pos (by omega), hb]; rfl
        · left
          subst h0
          have hne : (((c2.toNat : Nat) : Int) == 35) = false := beq_eq_false_iff_ne.2 (fun e => h2 (by
            have : c2.toNat = (35 : UInt8).toNat := by show c2.toNat = 35; omega
            exact UInt8.toNat_inj.1 this))
          rw [e_T_spec_SplitPrivate]
          simp only [List.length_cons, List.getD_cons_zero, List.getD_cons_succ]
          rw [decide_eq_false (by omega), cond_false, if_pos (by omega), show ((((35 : UInt8).toNat : Nat) : Int) == 35) = true from rfl]
          simp only [Bool.not_true, cond_false]
          rw [if_pos (by omega), hne]; rfl
      · left
        have hne : (((c0.toNat : Nat) : Int) == 35) = false := beq_eq_false_iff_ne.2 (fun e => h0 (by
          have : c0.toNat = (35 : UInt8).toNat := by show c0.toNat = 35; omega
          exact UInt8.toNat_inj.1 this))
        rw [e_T_spec_SplitPrivate]
        simp only [List.length_cons, List.getD_cons_zero]
        rw [decide_eq_false (by omega), cond_false, if_pos (by omega), hne]; rfl
theorem x_SplitP {a : List UInt8} (ha : a.length ≤ 1048576) : ∃ d n v, T_spec_SplitPrivate a = some (d, n, v) ∧ T_impl_SplitPrivate a = some (d, n, v) ∧ n.length ≤ 12 ∧ (v = true → ∃ c t, a = 35 :: c :: 35 :: t ∧ 49 ≤ c.toNat ∧ c.toNat ≤ 57 ∧ t.length ≤ 12) := by
  have hS : T_strings_Split (a, [35]) = some (splK 35 (Lib.count a [35]) a) := by
    unfold T_strings_Split
    simp only
    rw [if_pos (by omega)]
  have hS' : T_strings_Split (a, ([{ toBitVec := { toFin := ⟨35, Nat.mod_lt 35 (BitVec.ofNat._proof_1 8)⟩ } }] : List UInt8)) = some (splK 35 (Lib.count a [35]) a) := hS
  rcases sp_total ha with h | ⟨c, t, rfl, h1, h2, h3⟩
  · refine ⟨0, [], false, h, ?_, by simp, fun h => by cases h⟩
    rw [e_T_impl_SplitPrivate, hS']
    simp only [Option.bind_some]
    obtain ⟨l1, l2⟩ := splK_len 35 (Lib.count a [35]) a
    generalize hL : splK 35 (Lib.count a [35]) a = L at l1 l2
    by_cases h3 : L.length = 3
    · have e3 : ((L.length : Int) == 3) = true := by rw [h3]; rfl
      rw [e3]
      match L, h3, l2, hL with
      | [p0, p1, p2], _, l2, hL =>
        obtain ⟨n, ok, r1⟩ := x_RD p1 (Nat.le_trans (l2 p1 (by simp)) ha)
        simp only [Bool.not_true, cond_false, List.length_cons, List.length_nil, show (1 : Nat) < 0 + 1 + 1 + 1 by decide, show (2 : Nat) < 0 + 1 + 1 + 1 by decide, if_true, List.getElem?_cons_succ, List.getElem?_cons_zero, Option.bind_some, r1]
        cases ok with
        | false => rfl
        | true =>
          have hp2 := Nat.le_trans (l2 p2 (by simp)) ha
          obtain ⟨r, r2, r3, r4⟩ := x_PN n hp2
          simp only [Bool.not_true, cond_false, r2, Option.bind_some, Sum.elim_inl]
          cases hra : (r == a) with
          | false => rfl
          | true =>
            exfalso
            have hra := eq_of_beq hra
            rcases r3 with rfl | ⟨hd, hn⟩
            · subst hra
              have : splK 35 (Lib.count [] [35]) [] = [[]] := by rw [Lib.count_one]; rfl
              rw [this] at hL
              cases hL
            · have e := r4 hd hn
              obtain ⟨b, k1, k2⟩ := x_NameOk (a := p2) (by rw [maxLen_eq]; omega)
              rw [hn] at k2
              cases k2
              have hc : (UInt8.ofNat (48 + n.toNat)).toNat = 48 + n.toNat := by simp; omega
              have := sp_good (c := UInt8.ofNat (48 + n.toNat)) (t := p2) (by omega) (by omega) k1
              rw [← e, hra, h] at this
              simp at this
    · have e3 : ((L.length : Int) == 3) = false := beq_eq_false_iff_ne.2 (by omega)
      rw [e3]; rfl
  · have hl := nm_pos h3
    obtain ⟨b, k1, k2⟩ := x_NameOk (a := t) (by rw [maxLen_eq]; omega)
    rw [h3] at k1
    cases k1
    have hc35 : c ≠ 35 := fun e => by subst e; exact absurd h1 (by decide)
    refine ⟨_, _, _, sp_good h1 h2 h3, ?_, hl.2, fun _ => ⟨c, t, rfl, h1, h2, hl.2⟩⟩
    obtain ⟨r, r2, r3, r4⟩ := x_PN ((c.toNat - 48 : Nat) : Int) (t := t) (by omega)
    have e := r4 (by omega) k2
    rw [Int.toNat_natCast, show 48 + (c.toNat - 48) = c.toNat by omega, byte_of (c := c) rfl] at e
    subst e
    rw [e_T_impl_SplitPrivate, hS', spl3 hc35 (okName (by rw [maxLen_eq]; omega) k2)]
    simp only [Option.bind_some, List.length_cons, List.length_nil, show ((((0 + 1 + 1 + 1 : Nat)) : Int) == 3) = true from rfl, Bool.not_true, cond_false, show (1 : Nat) < 0 + 1 + 1 + 1 by decide, show (2 : Nat) < 0 + 1 + 1 + 1 by decide, if_true, List.getElem?_cons_succ, List.getElem?_cons_zero, rd_one h1 h2, r2, beq_self_eq_true, Sum.elim_inl]
end Xs
end Go.Proofs.YtainknkfjekngaaDoor
