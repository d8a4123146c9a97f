/- What the reference's function answers, and the program's: the same. -/
import Derived.Test.YtfepabohinkpgaaT9
import Derived.Test.YtfepabohinkpgaaXBoxDrawsE
namespace Go.Proofs.Ytfepabohinkpgaa
open Go Vm
set_option linter.unusedVariables false
set_option linter.unusedSimpArgs false
namespace Xs
theorem small_len {s : List UInt8} (h : ET.str.small s) : s.length ≤ maxLen := Nat.le_trans h (by decide)
theorem smallL_len {e : ET} {o : Bool} {s : List e.den} (h : (ET.sl o e).small s) : s.length ≤ maxLen := Nat.le_trans h.1 (by decide)
theorem x_inRange (a b c : Int) : T_spec_l01In (a, b, c) = some (decide (b ≤ a ∧ a ≤ c)) ∧ T_impl_inRange (a, b, c) = some (decide (b ≤ a ∧ a ≤ c)) := by
  rw [e_T_spec_l01In, e_T_impl_inRange]
  by_cases h : b ≤ a <;> simp [h]
/-- A name's step, as the reference has it. -/
def nameS (i : Nat) (y : UInt8) (_ : Unit) : Option (Unit ⊕ Bool) :=
  some (if (97 ≤ (y.toNat : Int) ∧ (y.toNat : Int) ≤ 122) ∨ (¬ i = 0 ∧ 48 ≤ (y.toNat : Int) ∧ (y.toNat : Int) ≤ 57) then .inl () else .inr false)
theorem getD_of {a : List UInt8} {i : Nat} {y : UInt8} (h : a[i]? = some y) (d : UInt8) : a.getD i d = y := by simp [List.getD_eq_getElem?_getD, h]
theorem w1 : IntKind.i64.wrap 1 = 1 := by decide +kernel
theorem l_implName {a : List UInt8} (h : a.length ≤ maxLen) : L_impl_NameOk_1 fuel (a, 0) = (each nameS 0 a ()).bind (Sum.elim (fun _ => some (.inl a)) fun r => some (.inr r)) := by
  refine each_loop (L := L_impl_NameOk_1) a (fun (_ : Unit) c => (a, c)) (fun _ => a) nameS (fun n s i y hy => ?_) (fun n s => ?_) h ()
  · have hlt := (List.getElem?_eq_some_iff.1 hy).1
    rw [maxLen_eq] at h
    rw [e_L_impl_NameOk_1]
    simp only [show ((i : Int) < (a.length : Int)) by omega, decide_true, cond_true, Int.natCast_nonneg, if_true, Int.toNat_natCast, getD_of hy, wrap_ok (n := (i : Int) + 1) (by omega) (by omega), nameS, ← Int.not_le, decide_not]
    have i0 : ¬ i = 0 → ((i : Int) == 0) = false := fun h => by simp [h]
    by_cases h1 : (97 : Int) ≤ y.toNat <;> by_cases h2 : (y.toNat : Int) ≤ 122 <;> by_cases h3 : i = 0 <;> by_cases h4 : (48 : Int) ≤ y.toNat <;> by_cases h5 : (y.toNat : Int) ≤ 57 <;> simp [h1, h2, h3, h4, h5, (List.getElem?_eq_some_iff.1 hy).2, hlt, Nat.not_le.2 hlt, wrap_ok (n := (i : Int) + 1) (by omega) (by omega), w1, i0, -Int.not_le]
  · rw [e_L_impl_NameOk_1]; simp
theorem l_specName {a : List UInt8} (h : a.length ≤ maxLen) (h0 : ∃ y, a[0]? = some y ∧ (97 : Int) ≤ y.toNat ∧ (y.toNat : Int) ≤ 122) : L_spec_NameOk_1 fuel (a, 0) = (each nameS 0 a ()).bind (Sum.elim (fun _ => some (.inl ())) fun r => some (.inr r)) := by
  refine each_loop (L := L_spec_NameOk_1) a (fun (_ : Unit) c => (a, c)) (fun _ => ()) nameS (fun n s i y hy => ?_) (fun n s => ?_) h ()
  · have hlt := (List.getElem?_eq_some_iff.1 hy).1
    rw [maxLen_eq] at h
    rw [e_L_spec_NameOk_1]
    simp only [show ((i : Int) < (a.length : Int)) by omega, decide_true, cond_true, Int.natCast_nonneg, if_true, Int.toNat_natCast, getD_of hy, wrap_ok (n := (i : Int) + 1) (by omega) (by omega), nameS, ← Int.not_le, decide_not]
    by_cases h3 : i = 0
    · subst h3
      obtain ⟨z, hz, h1, h2⟩ := h0
      rw [hy] at hz; cases hz
      simp [h1, h2, (List.getElem?_eq_some_iff.1 hy).2, w1, hlt, -Int.not_le]
    · have i0 : ((i : Int) == 0) = false := by simp [h3]
      by_cases h1 : (97 : Int) ≤ y.toNat <;> by_cases h2 : (y.toNat : Int) ≤ 122 <;> by_cases h4 : (48 : Int) ≤ y.toNat <;> by_cases h5 : (y.toNat : Int) ≤ 57 <;> simp [h1, h2, h3, h4, h5, (List.getElem?_eq_some_iff.1 hy).2, hlt, Nat.not_le.2 hlt, wrap_ok (n := (i : Int) + 1) (by omega) (by omega), w1, i0, -Int.not_le]
  · rw [e_L_spec_NameOk_1]; simp
theorem each_name (l : List UInt8) (i : Nat) : each nameS i l () = some (.inl ()) ∨ each nameS i l () = some (.inr false) := by
  induction l generalizing i with
  | nil => exact .inl rfl
  | cons y l ih =>
    simp only [each, nameS]
    split
    · exact ih (i + 1)
    · exact .inr rfl
theorem x_NameOk {a : List UInt8} (h : a.length ≤ maxLen) : ∃ b, T_spec_NameOk a = some b ∧ T_impl_NameOk a = some b := by
  rw [e_T_spec_NameOk, e_T_impl_NameOk, l_implName h]
  simp only [(x_inRange _ _ _).1, Option.bind_some]
  by_cases hr : (1 : Int) ≤ a.length ∧ (a.length : Int) ≤ 12
  · obtain ⟨y, hy⟩ : ∃ y, a[0]? = some y := ⟨a[0]'(by omega), List.getElem?_eq_getElem (by omega)⟩
    simp only [hr, and_self, decide_true, Bool.not_true, cond_false, show (0 : Int) < a.length by omega, if_true, getD_of hy]
    by_cases h0 : (97 : Int) ≤ y.toNat ∧ (y.toNat : Int) ≤ 122
    · rw [show decide ((y.toNat : Int) < 97) = false by simp; omega, show decide (122 < (y.toNat : Int)) = false by simp; omega]
      simp only [cond_false, Option.bind_some, Sum.elim_inl, l_specName h ⟨y, hy, h0⟩]
      rcases each_name a 0 with h1 | h1 <;> rw [h1] <;> simp [(x_inRange _ _ _).2, hr]
    · have h1 : each nameS 0 a () = some (.inr false) := by
        match a, hy with
        | z :: l, hy =>
          simp at hy; subst hy
          simp [each, nameS, h0]
      rw [h1]
      refine ⟨false, ?_, rfl⟩
      by_cases h2 : (y.toNat : Int) < 97
      · simp [h2]
      · have h3 : (122 : Int) < y.toNat := by omega
        simp [h2, h3]
  · refine ⟨false, by simp [hr], ?_⟩
    rcases each_name a 0 with h1 | h1 <;> rw [h1] <;> simp only [(x_inRange _ _ _).2, hr, Option.bind_some, Sum.elim_inl, Sum.elim_inr, decide_false]
def shortS (i : Nat) (y : List UInt8) (_ : Unit) : Option (Unit ⊕ Bool) := some (bif decide (60 < (y.length : Int)) then .inr false else .inl ())
theorem each_short (l : List (List UInt8)) (i : Nat) : each shortS i l () = some (.inl ()) ∨ each shortS i l () = some (.inr false) := by
  induction l generalizing i with
  | nil => exact .inl rfl
  | cons y l ih =>
    simp only [each, shortS]
    cases decide (60 < (y.length : Int))
    · exact ih (i + 1)
    · exact .inr rfl
theorem l_short {a : List (List UInt8)} (h : a.length ≤ maxLen) : L_impl_areShort_1 fuel (a, (a.length : Int), 0) = each shortS 0 a () := by
  rw [each_loop (L := L_impl_areShort_1) a (fun (_ : Unit) c => (a, (a.length : Int), c)) (fun _ => ()) shortS (fun n s i y hy => ?_) (fun n s => ?_) h ()]
  · rcases each_short a 0 with h1 | h1 <;> rw [h1] <;> rfl
  · have hlt := (List.getElem?_eq_some_iff.1 hy).1
    rw [maxLen_eq] at h
    rw [e_L_impl_areShort_1]
    simp only [show ((i : Int) < (a.length : Int)) by omega, decide_true, cond_true, Int.natCast_nonneg, if_true, Int.toNat_natCast, hy, Option.bind_some, wrap_ok (n := (i : Int) + 1) (by omega) (by omega), shortS]
    cases decide (60 < (y.length : Int)) <;> rfl
  · rw [e_L_impl_areShort_1]; simp
theorem l_boxes {a : List (List UInt8)} {s : List UInt8} {o : Bool} (h : a.length ≤ maxLen) : L_spec_BoxOk_1 fuel ((s, a, o), 0) = each shortS 0 a () := by
  rw [each_loop (L := L_spec_BoxOk_1) a (fun (_ : Unit) c => ((s, a, o), c)) (fun _ => ()) shortS (fun n t i y hy => ?_) (fun n s => ?_) h ()]
  · rcases each_short a 0 with h1 | h1 <;> rw [h1] <;> rfl
  · have hlt := (List.getElem?_eq_some_iff.1 hy).1
    rw [maxLen_eq] at h
    rw [e_L_spec_BoxOk_1]
    simp only [show ((i : Int) < (a.length : Int)) by omega, decide_true, cond_true, Int.natCast_nonneg, if_true, Int.toNat_natCast, hy, Option.bind_some, wrap_ok (n := (i : Int) + 1) (by omega) (by omega), shortS]
    cases decide (60 < (y.length : Int)) <;> rfl
  · rw [e_L_spec_BoxOk_1]; simp
theorem x_BoxOk {x : List UInt8 × List (List UInt8) × Bool} (h : (ET.pair .str (.pair (.sl false .str) .bool)).small x) : ∃ v, T_spec_BoxOk x = some v ∧ T_impl_BoxOk x = some v := by
  obtain ⟨a, b, c⟩ := x
  obtain ⟨h1, h2, h3⟩ := h
  obtain ⟨v, h4, h5⟩ := x_NameOk (small_len h1)
  rw [e_T_spec_BoxOk, e_T_impl_BoxOk, h4, h5, e_T_impl_areShort, l_short (smallL_len h2)]
  simp only [Option.bind_some, ← Int.not_le, decide_not]
  rcases each_short b 0 with h6 | h6 <;> rw [h6] <;> cases v <;> cases c <;> by_cases h7 : (b.length : Int) ≤ 5 <;> by_cases h8 : (b.length : Int) ≤ 0 <;>
    simp [h7, h8, l_boxes (smallL_len h2), h6, -Int.not_le] <;>
    (cases decide (b = []) <;> rfl)
theorem x_CloneS {a : List (List UInt8)} (h : a.length ≤ 1048576) : T_slices_Clone___string_string_ a = some a := by
  rw [e_T_slices_Clone___string_string_, if_pos ⟨by omega, by omega⟩]
  cases a with
  | nil => exact both_same
  | cons x l => rfl
theorem x_l18Copy (x : List UInt8 × List (List UInt8) × Bool) (h : x.2.1.length ≤ 1048576) : T_spec_l18Copy x = some x := by
  obtain ⟨a, b, c⟩ := x
  have hb : b.length ≤ 1048576 := h
  rw [e_T_spec_l18Copy, if_pos ⟨by omega, by omega⟩]
theorem x_copyBox (x : List UInt8 × List (List UInt8) × Bool) (h : x.2.1.length ≤ 1048576) : T_impl_copyBox x = some x := by
  obtain ⟨a, b, c⟩ := x
  have hb : b.length ≤ 1048576 := h
  rw [e_T_impl_copyBox, x_CloneS hb]; rfl
theorem x_BoxLen {a : List UInt8} {b : List (List UInt8)} {c : Bool} (h : T_impl_BoxOk (a, b, c) = some true) : b.length ≤ 5 := by
  rw [e_T_impl_BoxOk] at h
  by_cases hb : (b.length : Int) ≤ 5
  · omega
  · rw [decide_eq_false hb] at h
    cases hn : T_impl_NameOk a with
    | none => rw [hn] at h; cases h
    | some r => rw [hn] at h; cases r <;> cases h
theorem x_Drop {a : List UInt8} {b : List (List UInt8)} {c : Bool} {d : List UInt8} (h : (ET.pair .str (.pair (.sl false .str) .bool)).small (a, b, c)) (hd : d.length ≤ 1048576) : ∃ v1 v2 v3, T_spec_Drop ((a, b, c), d) = some (v1, v2, v3) ∧ T_impl_Drop ((a, b, c), d) = some (v1, v2, v3) ∧ (ET.pair .str (.pair (.sl false .str) .bool)).small (v1, v2, v3) := by
  obtain ⟨v, h1, h2⟩ := x_BoxOk h
  have hl : b.length ≤ 1048576 := h.2.1.1
  rw [e_T_spec_Drop, e_T_impl_Drop, x_l18Copy _ hl, x_copyBox _ hl, h1, h2]
  simp only [Option.bind_some]
  cases v
  · refine ⟨a, b, c, ?_, ?_, h⟩
    · simp
    · cases c <;> cases decide (60 < (d.length : Int)) <;> simp
  · cases c
    · by_cases h60 : 60 < (d.length : Int)
      · exact ⟨a, b, false, by simp [h60], by simp [h60], h⟩
      · have h5 := x_BoxLen h2
        by_cases hb : (b.length : Int) = 5
        · exact ⟨a, [], true, by simp [h60, hb], by simp [h60, hb], h.1, ⟨Nat.zero_le _, fun x hx => by cases hx⟩, trivial⟩
        · have hbb : ((b.length : Int) == 5) = false := by simpa using hb
          refine ⟨a, b ++ [d], false, ?_, ?_, h.1, ⟨by simp; omega, fun x hx => ?_⟩, trivial⟩
          · simp only [h60, decide_false, Option.bind_some, Sum.elim_inl, hbb, cond_false, Bool.not_true]
            rw [if_pos ⟨by simp; omega, by simp; omega⟩]; rfl
          · simp only [h60, decide_false, Option.bind_some, Sum.elim_inl, hbb, cond_false, Bool.not_true]
            rw [if_pos ⟨by simp; omega, by simp; omega⟩]; rfl
          · rcases List.mem_append.1 hx with hx | hx
            · exact h.2.1.2 x hx
            · rw [List.mem_singleton.1 hx]; exact hd
    · exact ⟨a, b, true, by simp, by simp, h⟩
theorem x_Fetch {a : List UInt8} {b : List (List UInt8)} {c : Bool} (h : (ET.pair .str (.pair (.sl false .str) .bool)).small (a, b, c)) : ∃ v1 v2 v3 s o, T_spec_Fetch (a, b, c) = some ((v1, v2, v3), s, o) ∧ T_impl_Fetch (a, b, c) = some ((v1, v2, v3), s, o) ∧ (ET.pair .str (.pair (.sl false .str) .bool)).small (v1, v2, v3) ∧
    (o = true → v1 = a ∧ b = s :: v2 ∧ v3 = c) ∧ (o = false → v1 = a ∧ v2 = b ∧ v3 = c) ∧ (T_impl_BoxOk (a, b, c) = some true → b ≠ [] → o = true) := by
  obtain ⟨v, h1, h2⟩ := x_BoxOk h
  have hl : b.length ≤ 1048576 := h.2.1.1
  have hL := x_l18Copy (a, b, c) hl
  rw [e_T_spec_Fetch, e_T_impl_Fetch, x_copyBox _ hl, h1, h2]
  simp only [Option.bind_some]
  cases b with
  | nil =>
    refine ⟨a, [], c, [], false, ?_, ?_, h, fun h => (by cases h), fun _ => ⟨rfl, rfl, rfl⟩, fun _ h => absurd rfl h⟩
    · cases v <;> simp [hL]
    · simp
  | cons s b =>
    have hz : (((s :: b).length : Int) == 0) = false := by simp; omega
    cases v
    · refine ⟨a, s :: b, c, [], false, ?_, ?_, h, fun h => (by cases h), fun _ => ⟨rfl, rfl, rfl⟩, fun h => (by cases h)⟩
      · simp only [Bool.not_false, cond_true, Option.bind_some, Sum.elim_inl, hL]
      · simp only [hz, Bool.not_false, cond_true, cond_false, Option.bind_some, Sum.elim_inl]
    · refine ⟨a, b, c, s, true, ?_, ?_, ⟨h.1, ⟨(by simp only [List.length_cons] at hl; show b.length ≤ 1048576; omega), fun x hx => h.2.1.2 x (by simp [hx])⟩, h.2.2⟩, fun _ => ⟨rfl, rfl, rfl⟩, fun h => (by cases h), fun _ _ => rfl⟩
      · simp only [hz, Bool.not_true, cond_false, Option.bind_some, Sum.elim_inl, hL]
        have hd : List.drop 1 (List.take (s :: b).length (s :: b)) = b := by simp
        simp only [List.length_cons] at hl hd
        simp only [hd, List.length_cons, List.getElem?_cons_zero, Option.bind_some]
        rw [if_pos (by omega), if_pos (by omega), if_pos (by omega)]
      · simp only [hz, Bool.not_true, cond_false, Option.bind_some, Sum.elim_inl]
        rw [T_slices_Delete___string_string_, if_pos (by simp; omega)]
        rfl
theorem fuel2 : fuel = 18446744073709551614 + 1 + 1 := rfl
theorem and255 (z : BitVec 64) : IntKind.i64.wrap (((z &&& BitVec.ofInt 64 255).toNat : Nat) : Int) = (((z &&& BitVec.ofInt 64 255).toNat : Nat) : Int) ∧ (z &&& BitVec.ofInt 64 255).toNat ≤ 255 := by
  have h : (z &&& BitVec.ofInt 64 255).toNat ≤ 255 := by
    rw [BitVec.toNat_and, show (BitVec.ofInt 64 255).toNat = 255 from rfl]
    exact Nat.and_le_right
  exact ⟨wrap_ok (by omega) (by omega), h⟩
/-- A drawn byte. -/
theorem x_Byte {a : List Int} {b c : Int} (ha : a.length ≤ 1048576) (hb : 0 ≤ b) : ∃ x b' c', T_spec_l01Byte (a, b, c) = some (x, a, b', c') ∧ 0 ≤ x ∧ x ≤ 255 ∧ 0 ≤ b' := by
  rw [e_T_spec_l01Byte]
  generalize IntKind.i64.wrap (IntKind.i64.wrap (c * 6364136223846793005) + 1442695040888963407) = h
  by_cases hlt : b < (a.length : Int)
  · have hy : a[b.toNat]? = some (a[b.toNat]'(by omega)) := List.getElem?_eq_getElem (by omega)
    simp only [hlt, decide_true, cond_true, hb, if_true, hy, Option.bind_some, Sum.elim_inl]
    refine ⟨_, _, _, rfl, ?_, ?_, ?_⟩
    · rw [(and255 _).1]; omega
    · rw [(and255 _).1]; have := (and255 (BitVec.ofInt 64 (IntKind.i64.wrap (IntKind.i64.wrap (((BitVec.ofInt 64 (IntKind.i64.wrap (((BitVec.ofInt 64 (h.fdiv (2 ^ 33)) ^^^ BitVec.ofInt 64 (h.fdiv (2 ^ 45))).toNat : Nat) : Int)) &&& BitVec.ofInt 64 255).toNat : Nat) : Int) + IntKind.i64.wrap a[b.toNat])))).2; omega
    · rw [wrap_ok (by omega) (by omega)]; omega
  · simp only [hlt, decide_false, cond_false, Option.bind_some, Sum.elim_inl]
    refine ⟨_, _, _, rfl, ?_, ?_, hb⟩
    · rw [(and255 _).1]; omega
    · rw [(and255 _).1]; have := (and255 (BitVec.ofInt 64 (IntKind.i64.wrap (((BitVec.ofInt 64 (h.fdiv (2 ^ 33)) ^^^ BitVec.ofInt 64 (h.fdiv (2 ^ 45))).toNat : Nat) : Int)))).2; omega
theorem x_Below {a : List Int} {b c n : Int} (ha : a.length ≤ 1048576) (hb : 0 ≤ b) (hn : n ≤ 256) : ∃ x b' c', T_spec_l01Below ((a, b, c), n) = some (x, a, b', c') ∧ 0 ≤ x ∧ (0 < n → x < n) ∧ x ≤ 255 ∧ 0 ≤ b' := by
  rw [e_T_spec_l01Below]
  by_cases h0 : n ≤ 0
  · exact ⟨0, b, c, by simp [h0], by omega, by omega, by omega, hb⟩
  · obtain ⟨x, b', c', h1, h2, h3, h4⟩ := x_Byte (c := c) ha hb
    refine ⟨x.tmod n, b', c', ?_, ?_, fun _ => ?_, ?_, h4⟩
    · simp only [h0, hn, decide_false, decide_true, cond_false, cond_true, h1, Option.bind_some, if_neg (show ¬ n = 0 by omega)]
    · exact Int.tmod_nonneg _ h2
    · exact Int.tmod_lt_of_pos _ (by omega)
    · have := Int.tmod_lt_of_pos x (show 0 < n by omega); omega
theorem x_Pick {a : List Int} {b c : Int} {l : List (List UInt8)} (ha : a.length ≤ 1048576) (hb : 0 ≤ b) (hl : 0 < l.length) (hl2 : l.length ≤ 256) : ∃ x b' c', T_spec_l01Pick ((a, b, c), l) = some (x, a, b', c') ∧ x ∈ l ∧ 0 ≤ b' := by
  obtain ⟨r, b', c', h1, h2, h3, _, h4⟩ := x_Below (c := c) (n := (l.length : Int)) ha hb (by omega)
  have hr : r.toNat < l.length := by have := h3 (by omega); omega
  refine ⟨l[r.toNat], b', c', ?_, List.getElem_mem hr, h4⟩
  rw [e_T_spec_l01Pick, h1]
  simp only [Option.bind_some, h2, if_true, List.getElem?_eq_getElem hr]
theorem l_New {a : List Int} (ha : a.length ≤ 1048576) : ∀ (m i n : Nat) (h : Int), m < n → i + m = min a.length 4000 → ∃ h', L_spec_l01New_1 n (a, h, (i : Int)) = some (.inl (a, h'))
  | 0, i, n, h, hn, hi => by
    obtain ⟨n, rfl⟩ : ∃ j, n = j + 1 := ⟨n - 1, by omega⟩
    rw [e_L_spec_l01New_1]
    by_cases h1 : (i : Int) < (a.length : Int)
    · exact ⟨h, by simp only [h1, show ¬ (i : Int) < 4000 by omega, decide_true, decide_false, cond_true, cond_false, Option.bind_some, Sum.elim_inl]⟩
    · exact ⟨h, by simp only [h1, decide_false, cond_false, Option.bind_some, Sum.elim_inl]⟩
  | m + 1, i, n, h, hn, hi => by
    obtain ⟨n, rfl⟩ : ∃ j, n = j + 1 := ⟨n - 1, by omega⟩
    rw [e_L_spec_l01New_1]
    have hy : a[i]? = some (a[i]'(by omega)) := List.getElem?_eq_getElem (by omega)
    simp only [show (i : Int) < (a.length : Int) by omega, show (i : Int) < 4000 by omega, decide_true, cond_true, Option.bind_some, Sum.elim_inl, Int.natCast_nonneg, if_true, Int.toNat_natCast, hy]
    rw [wrap_ok (n := (i : Int) + 1) (by omega) (by omega)]
    exact l_New ha m (i + 1) n _ (by omega) (by omega)
theorem x_New {a : List Int} (ha : a.length ≤ 1048576) : ∃ h, T_spec_l01New a = some (a, 0, h) := by
  obtain ⟨h, h1⟩ := l_New ha (min a.length 4000) 0 fuel (IntKind.i64.wrap (27101 + (a.length : Int))) (by simp only [fuel]; omega) (by omega)
  refine ⟨h, ?_⟩
  rw [e_T_spec_l01New]
  rw [show ((0 : Nat) : Int) = (0 : Int) from rfl] at h1
  rw [h1]; rfl
theorem l_Long {n x : Int} : ∀ (m i k : Nat) (c : List Int), m < k → (i : Int) + m = n → (c.length : Int) = n → n ≤ 1000000 → ∃ c', L_spec_l01Long_1 k (n, x, c, (i : Int)) = some (.inl c') ∧ c'.length = c.length
  | 0, i, k, c, hk, hi, hc, hn => by
    obtain ⟨k, rfl⟩ : ∃ j, k = j + 1 := ⟨k - 1, by omega⟩
    rw [e_L_spec_l01Long_1, decide_eq_false (by omega)]
    exact ⟨c, rfl, rfl⟩
  | m + 1, i, k, c, hk, hi, hc, hn => by
    obtain ⟨k, rfl⟩ : ∃ j, k = j + 1 := ⟨k - 1, by omega⟩
    have hy : c[i]? = some (c[i]'(by omega)) := List.getElem?_eq_getElem (by omega)
    rw [e_L_spec_l01Long_1, decide_eq_true (by omega), cond_true]
    simp only [Int.natCast_nonneg, if_true, Int.toNat_natCast, hy, Option.bind_some, show i < c.length by omega]
    rw [wrap_ok (by omega) (by omega)]
    obtain ⟨c', h1, h2⟩ := l_Long (x := x) m (i + 1) k (c.set i x) (by omega) (by omega) (by simpa using hc) hn
    exact ⟨c', h1, by rw [h2]; simp⟩
theorem x_Long {n x : Int} (h0 : 0 ≤ n) (hn : n ≤ 1000000) : ∃ s, T_spec_l01Long (n, x) = some s ∧ (s.length : Int) = n := by
  obtain ⟨c, h1, h2⟩ := l_Long (x := x) n.toNat 0 fuel (List.replicate n.toNat 0) (by simp only [fuel]; omega) (by omega) (by simp; omega) hn
  rw [show ((0 : Nat) : Int) = (0 : Int) from rfl] at h1
  refine ⟨List.map (fun (n : (ET.int IntKind.u8).den) => UInt8.ofNat (Int.toNat n)) c, ?_, ?_⟩
  · rw [e_T_spec_l01Long, if_pos ⟨h0, rfl, by omega, by omega⟩, h1]; rfl
  · rw [List.length_map, h2]; simp; omega
theorem dec_small {r : Int} (h0 : 0 ≤ r) (h : r < 5) : ∃ s, T_spec_Decimal r = some s ∧ s.length = 1 := by
  have : r = 0 ∨ r = 1 ∨ r = 2 ∨ r = 3 ∨ r = 4 := by omega
  rcases this with rfl | rfl | rfl | rfl | rfl
  · exact ⟨[48], by kernel_rfl, rfl⟩
  · exact ⟨[49], by kernel_rfl, rfl⟩
  · exact ⟨[50], by kernel_rfl, rfl⟩
  · exact ⟨[51], by kernel_rfl, rfl⟩
  · exact ⟨[52], by kernel_rfl, rfl⟩
def names5 : List (List UInt8) := [[97, 110, 110], [98, 111, 98], [99, 121], [100, 52], [101, 118, 101]]
theorem x_l03Name {a : List Int} {b c : Int} (ha : a.length ≤ 1048576) (hb : 0 ≤ b) : ∃ x b' c', T_spec_l03Name (a, b, c) = some (x, a, b', c') ∧ x.length ≤ 3 ∧ 0 ≤ b' := by
  obtain ⟨x, b', c', h1, h2, h3⟩ := x_Pick (c := c) (l := names5) ha hb (by decide) (by decide)
  have e := e_T_spec_l03Name a b c
  change _ = (T_spec_l01Pick ((a, b, c), names5)).bind _ at e
  rw [e, h1]
  exact ⟨x, b', c', rfl, (show ∀ y ∈ names5, y.length ≤ 3 by decide) x h2, h3⟩
theorem x_Once {a : List Int} {b c n : Int} (ha : a.length ≤ 1048576) (hb : 0 ≤ b) (hn : n ≤ 256) : ∃ x b' c', T_spec_l01Once ((a, b, c), n) = some (x, a, b', c') ∧ 0 ≤ b' := by
  obtain ⟨r, b', c', h1, _, _, _, h4⟩ := x_Below (c := c) (n := n) ha hb hn
  exact ⟨_, b', c', by rw [e_T_spec_l01Once, h1]; rfl, h4⟩
theorem d_Drop {a : List UInt8} {b : List (List UInt8)} {c : Bool} {d : List UInt8} (h : (ET.pair .str (.pair (.sl false .str) .bool)).small (a, b, c)) : ∃ v r, T_spec_BoxOk (a, b, c) = some v ∧ T_impl_BoxOk (a, b, c) = some v ∧ T_spec_Drop ((a, b, c), d) = some r ∧ T_impl_Drop ((a, b, c), d) = some r ∧
    (r = (a, b, c) ∧ (v = false ∨ c = true ∨ 60 < d.length) ∨ v = true ∧ c = false ∧ d.length ≤ 60 ∧ b.length = 5 ∧ r = (a, [], true) ∨ v = true ∧ c = false ∧ d.length ≤ 60 ∧ b.length < 5 ∧ r = (a, b ++ [d], false)) := by
  obtain ⟨v, h1, h2⟩ := x_BoxOk h
  have hl : b.length ≤ 1048576 := h.2.1.1
  refine ⟨v, ?_⟩
  rw [e_T_spec_Drop, e_T_impl_Drop, x_l18Copy _ hl, x_copyBox _ hl, h1, h2]
  simp only [Option.bind_some]
  cases v
  · refine ⟨(a, b, c), trivial, trivial, ?_, ?_, .inl ⟨rfl, .inl rfl⟩⟩
    · simp
    · cases c <;> cases decide (60 < (d.length : Int)) <;> simp
  · cases c
    · by_cases h60 : 60 < (d.length : Int)
      · exact ⟨(a, b, false), trivial, trivial, by simp [h60], by simp [h60], .inl ⟨rfl, .inr (.inr (by omega))⟩⟩
      · have h5 := x_BoxLen h2
        by_cases hb : (b.length : Int) = 5
        · exact ⟨(a, [], true), trivial, trivial, by simp [h60, hb], by simp [h60, hb], .inr (.inl ⟨rfl, rfl, by omega, by omega, rfl⟩)⟩
        · have hbb : ((b.length : Int) == 5) = false := by simpa using hb
          refine ⟨(a, b ++ [d], false), trivial, trivial, ?_, ?_, .inr (.inr ⟨rfl, rfl, by omega, by omega, rfl⟩)⟩
          · simp only [h60, decide_false, Option.bind_some, Sum.elim_inl, hbb, cond_false, Bool.not_true]
            rw [if_pos ⟨by simp; omega, by simp; omega⟩]; rfl
          · simp only [h60, decide_false, Option.bind_some, Sum.elim_inl, hbb, cond_false, Bool.not_true]
            rw [if_pos ⟨by simp; omega, by simp; omega⟩]; rfl
    · exact ⟨(a, b, true), trivial, trivial, by simp, by simp, .inl ⟨rfl, .inr (.inl rfl)⟩⟩
def Inv (k n : Nat) (x : List UInt8 × List (List UInt8) × Bool) : Prop := x.1.length ≤ 2 ∧ x.2.1.length ≤ k ∧ ∀ y ∈ x.2.1, y.length ≤ n
theorem Inv.small {k n : Nat} {x : List UInt8 × List (List UInt8) × Bool} (h : Inv k n x) (hk : k ≤ 1048576) (hn : n ≤ 1048576) : (ET.pair .str (.pair (.sl false .str) .bool)).small x :=
  ⟨Nat.le_trans h.1 (by omega), ⟨Nat.le_trans h.2.1 hk, fun y hy => Nat.le_trans (h.2.2 y hy) hn⟩, trivial⟩
theorem i_Drop {a : List UInt8} {b : List (List UInt8)} {c : Bool} {d : List UInt8} (h : Inv 5 60 (a, b, c)) (hd : d.length ≤ 60) : ∃ r1 r2 r3, T_spec_Drop ((a, b, c), d) = some (r1, r2, r3) ∧ Inv 5 60 (r1, r2, r3) := by
  obtain ⟨v, r, _, _, h3, _, h5⟩ := d_Drop (d := d) (h.small (by omega) (by omega))
  obtain ⟨r1, r2, r3⟩ := r
  refine ⟨r1, r2, r3, h3, ?_⟩
  rcases h5 with ⟨h5, _⟩ | ⟨_, _, _, _, h5⟩ | ⟨_, _, _, hb, h5⟩
  · cases h5; exact h
  · cases h5; exact ⟨h.1, Nat.zero_le _, fun y hy => by cases hy⟩
  · cases h5
    refine ⟨h.1, by simp; omega, fun y hy => ?_⟩
    rcases List.mem_append.1 hy with hy | hy
    · exact h.2.2 y hy
    · rw [List.mem_singleton.1 hy]; exact hd
theorem i_Fetch {a : List UInt8} {b : List (List UInt8)} {c : Bool} (h : Inv 5 60 (a, b, c)) : ∃ r1 r2 r3 s o, T_spec_Fetch (a, b, c) = some ((r1, r2, r3), s, o) ∧ Inv 5 60 (r1, r2, r3) := by
  obtain ⟨v1, v2, v3, s, o, h1, _, _, h4, h5, _⟩ := x_Fetch (h.small (by omega) (by omega))
  refine ⟨v1, v2, v3, s, o, h1, ?_⟩
  cases o with
  | true =>
    obtain ⟨rfl, rfl, rfl⟩ := h4 rfl
    exact ⟨h.1, by have := h.2.1; simp at this ⊢; omega, fun y hy => h.2.2 y (by simp [hy])⟩
  | false =>
    obtain ⟨rfl, rfl, rfl⟩ := h5 rfl
    exact h
theorem l_Box1 {a : List Int} (ha : a.length ≤ 1048576) (z : List UInt8 × List (List UInt8) × Bool) : ∀ (m i n : Nat) (b c : Int) (x1 : List UInt8) (x2 : List (List UInt8)) (x3 : Bool), m < n → i + m = 8 → 0 ≤ b → Inv 5 60 (x1, x2, x3) → ∃ b' c' y1 y2 y3, L_spec_l18Box_1 n ((a, b, c), z, (x1, x2, x3), (i : Int)) = some (.inl ((a, b', c'), z, y1, y2, y3)) ∧ 0 ≤ b' ∧ Inv 5 60 (y1, y2, y3)
  | m, i, n, b, c, x1, x2, x3, hn, hi, hb, hx => by
    obtain ⟨n, rfl⟩ : ∃ j, n = j + 1 := ⟨n - 1, by omega⟩
    obtain ⟨z1, z2, z3⟩ := z
    rw [e_L_spec_l18Box_1]
    obtain ⟨r, b1, c1, h1, h2, h3, _, h4⟩ := x_Below (c := c) (n := 8) ha hb (by omega)
    have hr := h3 (by omega)
    rw [h1, Option.bind_some]
    simp only
    by_cases hlt : (i : Int) < r
    · obtain ⟨m, rfl⟩ : ∃ j, m = j + 1 := ⟨m - 1, by omega⟩
      rw [decide_eq_true hlt, cond_true]
      obtain ⟨s, b2, c2, g1, g2, g3⟩ := x_l03Name (c := c1) ha h4
      rw [g1, Option.bind_some]
      simp only
      obtain ⟨r1, r2, r3, k1, k2⟩ := i_Drop (d := s) hx (by omega)
      rw [k1, Option.bind_some]
      obtain ⟨o, b3, c3, m1, m2⟩ := x_Once (c := c2) (n := 4) ha g3 (by omega)
      simp only
      rw [m1, Option.bind_some]
      cases o with
      | true =>
        obtain ⟨q1, q2, q3, s2, o2, f1, f2⟩ := i_Fetch k2
        simp only [cond_true, f1, Option.bind_some, Sum.elim_inl]
        rw [wrap_ok (n := (i : Int) + 1) (by omega) (by omega)]
        exact l_Box1 ha (z1, z2, z3) m (i + 1) n b3 c3 q1 q2 q3 (by omega) (by omega) m2 f2
      | false =>
        simp only [cond_false, Option.bind_some, Sum.elim_inl]
        rw [wrap_ok (n := (i : Int) + 1) (by omega) (by omega)]
        exact l_Box1 ha (z1, z2, z3) m (i + 1) n b3 c3 r1 r2 r3 (by omega) (by omega) m2 k2
    · rw [decide_eq_false hlt, cond_false]
      exact ⟨b1, c1, x1, x2, x3, rfl, h4, hx⟩
theorem l_Box2 {a : List Int} {b c : Int} (z : List UInt8 × List (List UInt8) × Bool) : ∀ (m n : Nat) (x1 : List UInt8) (x2 : List (List UInt8)) (x3 : Bool), m < n → x2.length + m = 6 → Inv 6 61 (x1, x2, x3) → ∃ y1 y2 y3, L_spec_l18Box_2 n ((a, b, c), z, x1, x2, x3) = some (.inl ((a, b, c), z, y1, y2, y3)) ∧ Inv 6 61 (y1, y2, y3)
  | m, n, x1, x2, x3, hn, hi, hx => by
    obtain ⟨n, rfl⟩ : ∃ j, n = j + 1 := ⟨n - 1, by omega⟩
    obtain ⟨z1, z2, z3⟩ := z
    rw [e_L_spec_l18Box_2]
    by_cases hlt : (x2.length : Int) ≤ 5
    · obtain ⟨m, rfl⟩ : ∃ j, m = j + 1 := ⟨m - 1, by omega⟩
      rw [decide_eq_true hlt, cond_true, if_pos ⟨by omega, by omega⟩, if_pos ⟨by omega, by omega⟩]
      refine l_Box2 (z1, z2, z3) m n x1 (x2 ++ [[120]]) x3 (by omega) (by simp; omega) ⟨hx.1, by simp; omega, fun y hy => ?_⟩
      rcases List.mem_append.1 hy with hy | hy
      · exact hx.2.2 y hy
      · rw [List.mem_singleton.1 hy]; decide
    · rw [decide_eq_false hlt, cond_false]
      exact ⟨x1, x2, x3, rfl, hx⟩
theorem x_Box {a : List Int} {b c : Int} (ha : a.length ≤ 1048576) (hb : 0 ≤ b) : ∃ x1 x2 x3 b' c', T_spec_l18Box (a, b, c) = some ((x1, x2, x3), a, b', c') ∧ Inv 6 61 (x1, x2, x3) ∧ 0 ≤ b' := by
  rw [e_T_spec_l18Box]
  obtain ⟨r, b1, c1, h1, h2, h3, _, h4⟩ := x_Below (c := c) (n := 5) ha hb (by omega)
  rw [h1, Option.bind_some]
  simp only
  obtain ⟨s, d1, d2⟩ := dec_small h2 (h3 (by omega))
  rw [d1, Option.bind_some, if_neg (by omega)]
  obtain ⟨b2, c2, y1, y2, y3, g1, g2, g3⟩ := l_Box1 ha ([], [], false) 8 0 fuel b1 c1 ([99] ++ s) [] false (by simp only [fuel]; omega) (by omega) h4 ⟨by simp; omega, Nat.zero_le _, fun y hy => by cases hy⟩
  have g1' : L_spec_l18Box_1 fuel ((a, b1, c1), ([], [], false), ([{ toBitVec := { toFin := ⟨99, Nat.mod_lt 99 (BitVec.ofNat._proof_1 8)⟩ } }] ++ s, [], false), 0) = some (Sum.inl ((a, b2, c2), ([], [], false), y1, y2, y3)) := g1
  rw [g1', Option.bind_some]
  simp only [Sum.elim_inl]
  obtain ⟨q, b3, c3, k1, k2, k3, _, k4⟩ := x_Below (c := c2) (n := 16) ha g2 (by omega)
  rw [k1, Option.bind_some]
  have hI : Inv 6 61 (y1, y2, y3) := ⟨g3.1, Nat.le_trans g3.2.1 (by omega), fun y hy => Nat.le_trans (g3.2.2 y hy) (by omega)⟩
  simp only
  cases q == 0 with
  | true =>
    obtain ⟨p, b4, c4, m1, m2, m3⟩ := x_Pick (c := c3) (l := [[], [67]]) ha k4 (by decide) (by decide)
    have m1' : T_spec_l01Pick ((a, b3, c3), [[], [{ toBitVec := { toFin := ⟨67, Nat.mod_lt 67 (BitVec.ofNat._proof_1 8)⟩ } }]]) = some (p, a, b4, c4) := m1
    simp only [cond_true, m1', Option.bind_some, Sum.elim_inl]
    refine ⟨_, _, _, b4, c4, rfl, ⟨?_, hI.2⟩, m3⟩
    exact Nat.le_trans ((show ∀ y ∈ ([[], [67]] : List (List UInt8)), y.length ≤ 1 by decide) p m2) (by omega)
  | false =>
    cases q == 1 with
    | true =>
      simp only [cond_true, cond_false, Option.bind_some, Sum.elim_inl]
      exact ⟨_, _, _, b3, c3, rfl, hI, k4⟩
    | false =>
      cases q == 2 with
      | true =>
        obtain ⟨t, b4, c4, m1, m2, m2', _, m3⟩ := x_Below (c := c3) (n := 2) ha k4 (by omega)
        have ht := m2' (by omega)
        obtain ⟨s5, s1, s2⟩ := x_Long (n := 60 + t) (x := 65) (by omega) (by omega)
        have hy2 : y2.length ≤ 5 := g3.2.1
        simp only [cond_true, cond_false]
        rw [if_pos ⟨by omega, by omega⟩, m1, Option.bind_some]
        simp only
        rw [wrap_ok (n := 60 + t) (by omega) (by omega), s1, Option.bind_some]
        simp only [List.length_singleton]
        rw [if_pos ⟨by omega, by omega⟩]
        refine ⟨y1, y2 ++ [s5], y3, b4, c4, rfl, ⟨hI.1, by simp; omega, fun y hy => ?_⟩, m3⟩
        rcases List.mem_append.1 hy with hy | hy
        · exact hI.2.2 y hy
        · rw [List.mem_singleton.1 hy]; omega
      | false =>
        cases q == 3 with
        | true =>
          have hy2 : y2.length ≤ 5 := g3.2.1
          obtain ⟨w1, w2, w3, l1, l2⟩ := l_Box2 (a := a) (b := b3) (c := c3) ([], [], false) (6 - y2.length) fuel y1 y2 y3 (by simp only [fuel]; omega) (by omega) hI
          simp only [cond_true, cond_false, l1, Option.bind_some, Sum.elim_inl]
          exact ⟨w1, w2, w3, b3, c3, rfl, l2, k4⟩
        | false =>
          simp only [cond_false, Option.bind_some, Sum.elim_inl]
          exact ⟨_, _, _, b3, c3, rfl, hI, k4⟩
theorem x_DrawDrop {a : List Int} (ha : a.length ≤ 1048576) : ∃ x1 x2 x3 s, T_spec_DrawDrop a = some ((x1, x2, x3), s) ∧ Inv 6 61 (x1, x2, x3) ∧ s.length ≤ 61 := by
  obtain ⟨h, h1⟩ := x_New ha
  obtain ⟨x1, x2, x3, b1, c1, g1, g2, g3⟩ := x_Box (c := h) ha (Int.le_refl 0)
  rw [e_T_spec_DrawDrop, h1]
  simp only [Option.bind_some, g1]
  obtain ⟨o, b2, c2, k1, k2⟩ := x_Once (c := c1) (n := 10) ha g3 (by omega)
  rw [k1, Option.bind_some]
  simp only
  cases o with
  | true =>
    obtain ⟨t, b4, c4, m1, m2, m2', _, m3⟩ := x_Below (c := c2) (n := 2) ha k2 (by omega)
    have ht := m2' (by omega)
    obtain ⟨s5, s1, s2⟩ := x_Long (n := 60 + t) (x := 65) (by omega) (by omega)
    rw [cond_true, m1, Option.bind_some]
    simp only
    rw [wrap_ok (n := 60 + t) (by omega) (by omega), s1, Option.bind_some]
    exact ⟨x1, x2, x3, s5, rfl, g2, by omega⟩
  | false =>
    obtain ⟨s, b3, c3, m1, m2, m3⟩ := x_l03Name (c := c2) ha k2
    rw [cond_false, m1, Option.bind_some]
    exact ⟨x1, x2, x3, s, rfl, g2, by omega⟩
theorem short_of : ∀ {l : List (List UInt8)} {i : Nat}, each shortS i l () = some (.inl ()) → ∀ x ∈ l, x.length ≤ 60
  | [], _, _, x, hx => by cases hx
  | y :: l, i, h, x, hx => by
    simp only [each, shortS] at h
    by_cases hy : 60 < (y.length : Int)
    · rw [decide_eq_true hy] at h; cases h
    · rw [decide_eq_false hy] at h
      rcases List.mem_cons.1 hx with rfl | hx
      · omega
      · exact short_of h x hx
theorem short_to : ∀ {l : List (List UInt8)} (_ : ∀ x ∈ l, x.length ≤ 60) (i : Nat), each shortS i l () = some (.inl ())
  | [], _, _ => rfl
  | y :: l, h, i => by
    have := h y (by simp)
    simp only [each, shortS, decide_eq_false (show ¬ 60 < (y.length : Int) by omega), cond_false]
    exact short_to (fun x hx => h x (by simp [hx])) (i + 1)
theorem boxOk_of {a : List UInt8} {l : List (List UInt8)} {o : Bool} (hs : l.length ≤ 1048576) (h : T_impl_BoxOk (a, l, o) = some true) : T_impl_NameOk a = some true ∧ l.length ≤ 5 ∧ (∀ x ∈ l, x.length ≤ 60) ∧ (o = true → l = []) := by
  have h5 := x_BoxLen h
  rw [e_T_impl_BoxOk, e_T_impl_areShort, l_short (by rw [maxLen_eq]; omega)] at h
  cases hn : T_impl_NameOk a with
  | none => rw [hn] at h; cases h
  | some r =>
    rw [hn] at h
    cases r
    · cases h
    · simp only [Option.bind_some, cond_true, decide_eq_true (show (l.length : Int) ≤ 5 by omega)] at h
      rcases each_short l 0 with h6 | h6
      · rw [h6] at h
        simp only [Option.bind_some, Sum.elim_inl, cond_true] at h
        refine ⟨rfl, h5, short_of h6, fun ho => ?_⟩
        subst ho
        simp at h
        exact h
      · rw [h6] at h
        cases h
theorem boxOk_to {a : List UInt8} {l : List (List UInt8)} {o : Bool} (hn : T_impl_NameOk a = some true) (h5 : l.length ≤ 5) (hl : ∀ x ∈ l, x.length ≤ 60) (ho : o = true → l = []) : T_impl_BoxOk (a, l, o) = some true := by
  rw [e_T_impl_BoxOk, hn, e_T_impl_areShort, l_short (by rw [maxLen_eq]; omega), short_to hl]
  simp only [Option.bind_some, cond_true, decide_eq_true (show (l.length : Int) ≤ 5 by omega), Sum.elim_inl]
  cases o
  · rfl
  · rw [ho rfl]; rfl
theorem law_FnBoxDraws (a : List Int) (h : (ET.sl false (.int .u8)).ok a) : T_laws_FnBoxDraws a = some true := by
  rw [e_T_laws_FnBoxDraws, e_T_laws_big]
  by_cases h1 : 1048576 < (a.length : Int)
  · simp [h1]
  · have ha : a.length ≤ 1048576 := by omega
    obtain ⟨x1, x2, x3, s, g1, g2, g3⟩ := x_DrawDrop ha
    have hs := g2.small (by omega) (by omega)
    obtain ⟨v, ⟨n1, n2, n3⟩, b1, b2, d1, d2, d3⟩ := d_Drop (d := s) hs
    obtain ⟨f1, f2, f3, t, o, e1, e2, e3, e4, e5, e6⟩ := x_Fetch hs
    rw [decide_eq_false h1]
    simp only [Option.bind_some, cond_false, g1, d2, e2, e1, beq_self_eq_true, Bool.not_true, b1, b2, d1, Sum.elim_inl]
    cases v with
    | false => simp only [Bool.not_false, cond_true]
    | true =>
      have hx2 : x2.length ≤ 6 := g2.2.1
      obtain ⟨o1, o2, o3, o4⟩ := boxOk_of (by omega) b2
      have hf : T_impl_BoxOk (f1, f2, f3) = some true := by
        cases o with
        | true =>
          obtain ⟨rfl, rfl, rfl⟩ := e4 rfl
          refine boxOk_to o1 (by simp at o2; omega) (fun x hx => o3 x (by simp [hx])) (fun ho => ?_)
          cases o4 ho
        | false =>
          obtain ⟨rfl, rfl, rfl⟩ := e5 rfl
          exact b2
      rcases d3 with ⟨hr, hc⟩ | ⟨_, _, _, hb, hr⟩ | ⟨_, hc, hd, hb, hr⟩
      · cases hr
        simp only [b2, hf, Bool.not_true, cond_false, Option.bind_some, cond_true]
        cases x3 with
        | true => rfl
        | false =>
          have h60 : 60 < s.length := by
            rcases hc with hc | hc | hc
            · cases hc
            · cases hc
            · exact hc
          have hne : ((x2.length : Int) == IntKind.i64.wrap ((x2.length : Int) + 1)) = false := by
            rw [wrap_ok (by omega) (by omega)]; simp; omega
          rw [cond_false, hne, cond_false, decide_eq_true (show 60 < (s.length : Int) by omega)]
      · cases hr
        have hn := boxOk_to (l := []) (o := true) o1 (by simp) (fun x hx => by cases hx) (fun _ => rfl)
        simp only [hn, hf, Bool.not_true, cond_false, Option.bind_some, cond_true]
      · cases hr
        have hn := boxOk_to (l := x2 ++ [s]) (o := false) o1 (by simp; omega) (fun x hx => by
          rcases List.mem_append.1 hx with hx | hx
          · exact o3 x hx
          · rw [List.mem_singleton.1 hx]; exact hd) (fun h => by cases h)
        simp only [hn, hf, Bool.not_true, cond_false, Option.bind_some, cond_true]
        rw [wrap_ok (by omega) (by omega)]
        have : (((x2 ++ [s]).length : Int) == (x2.length : Int) + 1) = true := by simp
        rw [this]; rfl
end Xs
end Go.Proofs.Ytfepabohinkpgaa
