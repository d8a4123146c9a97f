/- What the reference's function answers, and the program's: the same. -/
import Derived.Test.YtfepabohinkpgaaT9
import Derived.Test.YtfepabohinkpgaaXBoxesE
namespace Go.Proofs.Ytfepabohinkpgaa
open Go Vm
set_option linter.unusedVariables false
set_option linter.unusedSimpArgs false
namespace Xs
theorem small_len {s : List UInt8} (h : ET.str.small s) : s.length ≤ maxLen := Nat.le_trans h (by decide)
theorem smallL_len {e : ET} {o : Bool} {s : List e.den} (h : (ET.sl o e).small s) : s.length ≤ maxLen := Nat.le_trans h.1 (by decide)
/-- A name's step, as the reference has it. -/
def nameS (i : Nat) (y : UInt8) (_ : Unit) : Option (Unit ⊕ Bool) :=
  some (if (97 ≤ (y.toNat : Int) ∧ (y.toNat : Int) ≤ 122) ∨ (¬ i = 0 ∧ 48 ≤ (y.toNat : Int) ∧ (y.toNat : Int) ≤ 57) then .inl () else .inr false)
theorem getD_of {a : List UInt8} {i : Nat} {y : UInt8} (h : a[i]? = some y) (d : UInt8) : a.getD i d = y := by simp [List.getD_eq_getElem?_getD, h]
theorem w1 : IntKind.i64.wrap 1 = 1 := by decide +kernel
theorem l_implName {a : List UInt8} (h : a.length ≤ maxLen) : L_impl_NameOk_1 fuel (a, 0) = (each nameS 0 a ()).bind (Sum.elim (fun _ => some (.inl a)) fun r => some (.inr r)) := by
  refine each_loop (L := L_impl_NameOk_1) a (fun (_ : Unit) c => (a, c)) (fun _ => a) nameS (fun n s i y hy => ?_) (fun n s => ?_) h ()
  · have hlt := (List.getElem?_eq_some_iff.1 hy).1
    rw [maxLen_eq] at h
    rw [e_L_impl_NameOk_1]
    simp only [show ((i : Int) < (a.length : Int)) by omega, decide_true, cond_true, Int.natCast_nonneg, if_true, Int.toNat_natCast, getD_of hy, wrap_ok (n := (i : Int) + 1) (by omega) (by omega), nameS, ← Int.not_le, decide_not]
    have i0 : ¬ i = 0 → ((i : Int) == 0) = false := fun h => by simp [h]
    by_cases h1 : (97 : Int) ≤ y.toNat <;> by_cases h2 : (y.toNat : Int) ≤ 122 <;> by_cases h3 : i = 0 <;> by_cases h4 : (48 : Int) ≤ y.toNat <;> by_cases h5 : (y.toNat : Int) ≤ 57 <;> simp [h1, h2, h3, h4, h5, (List.getElem?_eq_some_iff.1 hy).2, hlt, Nat.not_le.2 hlt, wrap_ok (n := (i : Int) + 1) (by omega) (by omega), w1, i0, -Int.not_le]
  · rw [e_L_impl_NameOk_1]; simp
theorem each_name (l : List UInt8) (i : Nat) : each nameS i l () = some (.inl ()) ∨ each nameS i l () = some (.inr false) := by
  induction l generalizing i with
  | nil => exact .inl rfl
  | cons y l ih =>
    simp only [each, nameS]
    split
    · exact ih (i + 1)
    · exact .inr rfl
def shortS (i : Nat) (y : List UInt8) (_ : Unit) : Option (Unit ⊕ Bool) := some (bif decide (60 < (y.length : Int)) then .inr false else .inl ())
theorem each_short (l : List (List UInt8)) (i : Nat) : each shortS i l () = some (.inl ()) ∨ each shortS i l () = some (.inr false) := by
  induction l generalizing i with
  | nil => exact .inl rfl
  | cons y l ih =>
    simp only [each, shortS]
    cases decide (60 < (y.length : Int))
    · exact ih (i + 1)
    · exact .inr rfl
theorem l_short {a : List (List UInt8)} (h : a.length ≤ maxLen) : L_impl_areShort_1 fuel (a, (a.length : Int), 0) = each shortS 0 a () := by
  rw [each_loop (L := L_impl_areShort_1) a (fun (_ : Unit) c => (a, (a.length : Int), c)) (fun _ => ()) shortS (fun n s i y hy => ?_) (fun n s => ?_) h ()]
  · rcases each_short a 0 with h1 | h1 <;> rw [h1] <;> rfl
  · have hlt := (List.getElem?_eq_some_iff.1 hy).1
    rw [maxLen_eq] at h
    rw [e_L_impl_areShort_1]
    simp only [show ((i : Int) < (a.length : Int)) by omega, decide_true, cond_true, Int.natCast_nonneg, if_true, Int.toNat_natCast, hy, Option.bind_some, wrap_ok (n := (i : Int) + 1) (by omega) (by omega), shortS]
    cases decide (60 < (y.length : Int)) <;> rfl
  · rw [e_L_impl_areShort_1]; simp
theorem x_CloneS {a : List (List UInt8)} (h : a.length ≤ 1048576) : T_slices_Clone___string_string_ a = some a := by
  rw [e_T_slices_Clone___string_string_, if_pos ⟨by omega, by omega⟩]
  cases a with
  | nil => exact both_same
  | cons x l => rfl
theorem x_copyBox (x : List UInt8 × List (List UInt8) × Bool) (h : x.2.1.length ≤ 1048576) : T_impl_copyBox x = some x := by
  obtain ⟨a, b, c⟩ := x
  have hb : b.length ≤ 1048576 := h
  rw [e_T_impl_copyBox, x_CloneS hb]; rfl
theorem x_BoxLen {a : List UInt8} {b : List (List UInt8)} {c : Bool} (h : T_impl_BoxOk (a, b, c) = some true) : b.length ≤ 5 := by
  rw [e_T_impl_BoxOk] at h
  by_cases hb : (b.length : Int) ≤ 5
  · omega
  · rw [decide_eq_false hb] at h
    cases hn : T_impl_NameOk a with
    | none => rw [hn] at h; cases h
    | some r => rw [hn] at h; cases r <;> cases h
theorem fuel2 : fuel = 18446744073709551614 + 1 + 1 := rfl
theorem and255 (z : BitVec 64) : IntKind.i64.wrap (((z &&& BitVec.ofInt 64 255).toNat : Nat) : Int) = (((z &&& BitVec.ofInt 64 255).toNat : Nat) : Int) ∧ (z &&& BitVec.ofInt 64 255).toNat ≤ 255 := by
  have h : (z &&& BitVec.ofInt 64 255).toNat ≤ 255 := by
    rw [BitVec.toNat_and, show (BitVec.ofInt 64 255).toNat = 255 from rfl]
    exact Nat.and_le_right
  exact ⟨wrap_ok (by omega) (by omega), h⟩
/-- A drawn byte. -/
theorem x_Byte {a : List Int} {b c : Int} (ha : a.length ≤ 1048576) (hb : 0 ≤ b) : ∃ x b' c', T_spec_l01Byte (a, b, c) = some (x, a, b', c') ∧ 0 ≤ x ∧ x ≤ 255 ∧ 0 ≤ b' := by
  rw [e_T_spec_l01Byte]
  generalize IntKind.i64.wrap (IntKind.i64.wrap (c * 6364136223846793005) + 1442695040888963407) = h
  by_cases hlt : b < (a.length : Int)
  · have hy : a[b.toNat]? = some (a[b.toNat]'(by omega)) := List.getElem?_eq_getElem (by omega)
    simp only [hlt, decide_true, cond_true, hb, if_true, hy, Option.bind_some, Sum.elim_inl]
    refine ⟨_, _, _, rfl, ?_, ?_, ?_⟩
    · rw [(and255 _).1]; omega
    · rw [(and255 _).1]; have := (and255 (BitVec.ofInt 64 (IntKind.i64.wrap (IntKind.i64.wrap (((BitVec.ofInt 64 (IntKind.i64.wrap (((BitVec.ofInt 64 (h.fdiv (2 ^ 33)) ^^^ BitVec.ofInt 64 (h.fdiv (2 ^ 45))).toNat : Nat) : Int)) &&& BitVec.ofInt 64 255).toNat : Nat) : Int) + IntKind.i64.wrap a[b.toNat])))).2; omega
    · rw [wrap_ok (by omega) (by omega)]; omega
  · simp only [hlt, decide_false, cond_false, Option.bind_some, Sum.elim_inl]
    refine ⟨_, _, _, rfl, ?_, ?_, hb⟩
    · rw [(and255 _).1]; omega
    · rw [(and255 _).1]; have := (and255 (BitVec.ofInt 64 (IntKind.i64.wrap (((BitVec.ofInt 64 (h.fdiv (2 ^ 33)) ^^^ BitVec.ofInt 64 (h.fdiv (2 ^ 45))).toNat : Nat) : Int)))).2; omega
theorem x_Below {a : List Int} {b c n : Int} (ha : a.length ≤ 1048576) (hb : 0 ≤ b) (hn : n ≤ 256) : ∃ x b' c', T_spec_l01Below ((a, b, c), n) = some (x, a, b', c') ∧ 0 ≤ x ∧ (0 < n → x < n) ∧ x ≤ 255 ∧ 0 ≤ b' := by
  rw [e_T_spec_l01Below]
  by_cases h0 : n ≤ 0
  · exact ⟨0, b, c, by simp [h0], by omega, by omega, by omega, hb⟩
  · obtain ⟨x, b', c', h1, h2, h3, h4⟩ := x_Byte (c := c) ha hb
    refine ⟨x.tmod n, b', c', ?_, ?_, fun _ => ?_, ?_, h4⟩
    · simp only [h0, hn, decide_false, decide_true, cond_false, cond_true, h1, Option.bind_some, if_neg (show ¬ n = 0 by omega)]
    · exact Int.tmod_nonneg _ h2
    · exact Int.tmod_lt_of_pos _ (by omega)
    · have := Int.tmod_lt_of_pos x (show 0 < n by omega); omega
theorem l_New {a : List Int} (ha : a.length ≤ 1048576) : ∀ (m i n : Nat) (h : Int), m < n → i + m = min a.length 4000 → ∃ h', L_spec_l01New_1 n (a, h, (i : Int)) = some (.inl (a, h'))
  | 0, i, n, h, hn, hi => by
    obtain ⟨n, rfl⟩ : ∃ j, n = j + 1 := ⟨n - 1, by omega⟩
    rw [e_L_spec_l01New_1]
    by_cases h1 : (i : Int) < (a.length : Int)
    · exact ⟨h, by simp only [h1, show ¬ (i : Int) < 4000 by omega, decide_true, decide_false, cond_true, cond_false, Option.bind_some, Sum.elim_inl]⟩
    · exact ⟨h, by simp only [h1, decide_false, cond_false, Option.bind_some, Sum.elim_inl]⟩
  | m + 1, i, n, h, hn, hi => by
    obtain ⟨n, rfl⟩ : ∃ j, n = j + 1 := ⟨n - 1, by omega⟩
    rw [e_L_spec_l01New_1]
    have hy : a[i]? = some (a[i]'(by omega)) := List.getElem?_eq_getElem (by omega)
    simp only [show (i : Int) < (a.length : Int) by omega, show (i : Int) < 4000 by omega, decide_true, cond_true, Option.bind_some, Sum.elim_inl, Int.natCast_nonneg, if_true, Int.toNat_natCast, hy]
    rw [wrap_ok (n := (i : Int) + 1) (by omega) (by omega)]
    exact l_New ha m (i + 1) n _ (by omega) (by omega)
theorem x_New {a : List Int} (ha : a.length ≤ 1048576) : ∃ h, T_spec_l01New a = some (a, 0, h) := by
  obtain ⟨h, h1⟩ := l_New ha (min a.length 4000) 0 fuel (IntKind.i64.wrap (27101 + (a.length : Int))) (by simp only [fuel]; omega) (by omega)
  refine ⟨h, ?_⟩
  rw [e_T_spec_l01New]
  rw [show ((0 : Nat) : Int) = (0 : Int) from rfl] at h1
  rw [h1]; rfl
theorem l_Text {a : List Int} (ha : a.length ≤ 1048576) {d : Nat} (hd : d ≤ 5000) : ∀ (m i n : Nat) (b c : Int) (e : List Int), m < n → i + m = d → 0 ≤ b → e.length = i → ∃ b' c' e', L_spec_l01Text_1 n ((a, b, c), (d : Int), e, (i : Int)) = some (.inl ((a, b', c'), e')) ∧ 0 ≤ b' ∧ e'.length = d
  | 0, i, n, b, c, e, hn, hi, hb, he => by
    obtain ⟨n, rfl⟩ : ∃ j, n = j + 1 := ⟨n - 1, by omega⟩
    rw [e_L_spec_l01Text_1, decide_eq_false (by omega)]
    exact ⟨b, c, e, rfl, hb, by omega⟩
  | m + 1, i, n, b, c, e, hn, hi, hb, he => by
    obtain ⟨n, rfl⟩ : ∃ j, n = j + 1 := ⟨n - 1, by omega⟩
    obtain ⟨x, b', c', h1, _, _, h4⟩ := x_Byte (c := c) ha hb
    rw [e_L_spec_l01Text_1, decide_eq_true (by omega), cond_true, h1, Option.bind_some]
    simp only [List.length_singleton]
    rw [if_pos ⟨by omega, by omega⟩, wrap_ok (by omega) (by omega)]
    exact l_Text ha hd m (i + 1) n b' c' _ (by omega) (by omega) h4 (by simp [he])
theorem x_Text {a : List Int} {b c : Int} {d : Nat} (ha : a.length ≤ 1048576) (hb : 0 ≤ b) (hd : d ≤ 5000) : ∃ s b' c', T_spec_l01Text ((a, b, c), (d : Int)) = some (s, a, b', c') ∧ s.length = d ∧ 0 ≤ b' := by
  obtain ⟨b', c', e', h1, h2, h3⟩ := l_Text ha hd d 0 fuel b c [] (by simp only [fuel]; omega) (by omega) hb rfl
  rw [show ((0 : Nat) : Int) = (0 : Int) from rfl] at h1
  refine ⟨List.map (fun (n : (ET.int IntKind.u8).den) => UInt8.ofNat (Int.toNat n)) e', b', c', ?_, ?_, h2⟩
  · rw [e_T_spec_l01Text, decide_eq_false (by omega)]
    simp only [cond_false, Option.bind_some, Sum.elim_inl, h1]
  · rw [List.length_map]; exact h3
def bx : List UInt8 := [98, 111, 120]
theorem bx_name : T_impl_NameOk bx = some true := by
  rw [e_T_impl_NameOk, l_implName (by rw [maxLen_eq]; decide), show each nameS 0 bx () = some (.inl ()) by decide +kernel]
  simp only [Option.bind_some, Sum.elim_inl, e_T_impl_inRange]
  rfl
theorem each_shortOk : ∀ {l : List (List UInt8)} (_ : ∀ x ∈ l, x.length ≤ 60) (i : Nat), each shortS i l () = some (.inl ())
  | [], _, _ => rfl
  | y :: l, h, i => by
    have := h y (by simp)
    simp only [each, shortS, decide_eq_false (show ¬ 60 < (y.length : Int) by omega), cond_false]
    exact each_shortOk (fun x hx => h x (by simp [hx])) (i + 1)
theorem bx_ok {l : List (List UInt8)} {o : Bool} (hl : ∀ x ∈ l, x.length ≤ 60) (h5 : l.length ≤ 5) (ho : o = true → l = []) : T_impl_BoxOk (bx, l, o) = some true := by
  rw [e_T_impl_BoxOk, bx_name, e_T_impl_areShort, l_short (by rw [maxLen_eq]; omega), each_shortOk hl]
  simp only [Option.bind_some, cond_true, decide_eq_true (show (l.length : Int) ≤ 5 by omega), Sum.elim_inl]
  cases o
  · rfl
  · rw [ho rfl]; rfl
theorem bx_drop {l : List (List UInt8)} {d : List UInt8} (hl : ∀ x ∈ l, x.length ≤ 60) (h5 : l.length ≤ 5) (hd : d.length ≤ 60) : T_impl_Drop ((bx, l, false), d) = some (if l.length = 5 then (bx, [], true) else (bx, l ++ [d], false)) := by
  rw [e_T_impl_Drop, x_copyBox (bx, l, false) (show l.length ≤ 1048576 by omega), bx_ok hl h5 (fun h => by cases h)]
  simp only [Option.bind_some, cond_false, decide_eq_false (show ¬ (60 < (d.length : Int)) by omega), Bool.not_true, Sum.elim_inl]
  by_cases h : l.length = 5
  · simp [h]
  · have : ((l.length : Int) == 5) = false := by simp; omega
    rw [this, cond_false, if_pos ⟨by simp; omega, by simp; omega⟩, if_neg h]; rfl
theorem bx_over (d : List UInt8) : T_impl_Drop ((bx, [], true), d) = some (bx, [], true) := by
  rw [e_T_impl_Drop, x_copyBox (bx, [], true) (by simp)]; rfl
theorem bx_fetch {s : List UInt8} {l : List (List UInt8)} (hl : ∀ x ∈ s :: l, x.length ≤ 60) (h5 : (s :: l).length ≤ 5) : T_impl_Fetch (bx, s :: l, false) = some ((bx, l, false), s, true) := by
  rw [e_T_impl_Fetch, x_copyBox (bx, s :: l, false) (show (s :: l).length ≤ 1048576 by omega), bx_ok hl h5 (fun h => by cases h)]
  have : (((s :: l).length : Int) == 0) = false := by simp; omega
  simp only [this, Option.bind_some, cond_false, Bool.not_true, Sum.elim_inl]
  rw [T_slices_Delete___string_string_, if_pos (by simp; omega)]
  rfl
theorem bx_none (o : Bool) : T_impl_Fetch (bx, [], o) = some ((bx, [], o), [], false) := by
  rw [e_T_impl_Fetch, x_copyBox (bx, [], o) (by simp)]; rfl
theorem l_Draw {a : List Int} (ha : a.length ≤ 1048576) : ∀ (m i n : Nat) (b c : Int) (d : List (List UInt8)), m < n → i + m = 8 → 0 ≤ b → d.length = i → (∀ x ∈ d, x.length ≤ 11) → ∃ l, L_spec_DrawTexts_1 n ((a, b, c), d, (i : Int)) = some (.inl l) ∧ l.length ≤ 8 ∧ ∀ x ∈ l, x.length ≤ 11
  | m, i, n, b, c, d, hn, hi, hb, hd, hx => by
    obtain ⟨n, rfl⟩ : ∃ j, n = j + 1 := ⟨n - 1, by omega⟩
    rw [e_L_spec_DrawTexts_1]
    obtain ⟨r, b1, c1, h1, h2, h3, _, h4⟩ := x_Below (c := c) (n := 9) ha hb (by omega)
    have hr := h3 (by omega)
    rw [h1, Option.bind_some]
    simp only
    by_cases hlt : (i : Int) < r
    · obtain ⟨m, rfl⟩ : ∃ j, m = j + 1 := ⟨m - 1, by omega⟩
      obtain ⟨q, b2, c2, g1, g2, g3, _, g4⟩ := x_Below (c := c1) (n := 12) ha h4 (by omega)
      have hq := g3 (by omega)
      obtain ⟨q, rfl⟩ := Int.eq_ofNat_of_zero_le g2
      obtain ⟨s, b3, c3, k1, k2, k3⟩ := x_Text (c := c2) (d := q) ha g4 (by omega)
      rw [decide_eq_true hlt, cond_true, g1, Option.bind_some]
      simp only
      rw [k1, Option.bind_some]
      simp only [List.length_singleton]
      rw [if_pos ⟨by omega, by omega⟩, wrap_ok (by omega) (by omega)]
      exact l_Draw ha m (i + 1) n b3 c3 (d ++ [s]) (by omega) (by omega) k3 (by simp [hd]) (fun x hx' => by
        rcases List.mem_append.1 hx' with h | h
        · exact hx x h
        · rw [List.mem_singleton.1 h]; omega)
    · rw [decide_eq_false hlt, cond_false]
      exact ⟨d, rfl, by omega, hx⟩
theorem x_DrawTexts {a : List Int} (ha : a.length ≤ 1048576) : ∃ l, T_spec_DrawTexts a = some l ∧ l.length ≤ 8 ∧ ∀ x ∈ l, x.length ≤ 11 := by
  obtain ⟨h, h1⟩ := x_New ha
  obtain ⟨l, h2, h3, h4⟩ := l_Draw ha 8 0 fuel 0 h [] (by simp only [fuel]; omega) (by omega) (Int.le_refl 0) rfl (fun x hx => by cases hx)
  rw [show ((0 : Nat) : Int) = (0 : Int) from rfl] at h2
  exact ⟨l, by rw [e_T_spec_DrawTexts, h1]; simp only [Option.bind_some, h2, Sum.elim_inl], h3, h4⟩
theorem l_boxes1 {a : List (List UInt8)} (ha : ∀ x ∈ a, x.length ≤ 60) (hl : a.length ≤ 8) : ∀ (m i n : Nat), m < n → i + m = a.length → L_laws_FnBoxes_1 n (a, (bx, (if i ≤ 5 then a.take i else []), decide (5 < i)), (i : Int)) = some (.inl (a, bx, (if a.length ≤ 5 then a else []), decide (5 < a.length)))
  | 0, i, n, hn, hi => by
    obtain ⟨n, rfl⟩ : ∃ j, n = j + 1 := ⟨n - 1, by omega⟩
    obtain rfl : i = a.length := by omega
    rw [e_L_laws_FnBoxes_1, decide_eq_false (show ¬ ((a.length : Int) < (a.length : Int)) by omega), cond_false, List.take_length]
  | m + 1, i, n, hn, hi => by
    obtain ⟨n, rfl⟩ : ∃ j, n = j + 1 := ⟨n - 1, by omega⟩
    have hlt : i < a.length := by omega
    have hy : a[i]? = some a[i] := List.getElem?_eq_getElem hlt
    have hd := ha a[i] (List.getElem_mem hlt)
    rw [e_L_laws_FnBoxes_1, decide_eq_true (show ((i : Int) < (a.length : Int)) by omega), cond_true, if_pos (by omega)]
    simp only [Int.toNat_natCast]
    rw [if_pos hlt, hy, Option.bind_some, wrap_ok (by omega) (by omega)]
    have ih := l_boxes1 ha hl m (i + 1) n (by omega) (by omega)
    rw [show ((i + 1 : Nat) : Int) = (i : Int) + 1 from by omega] at ih
    by_cases h5 : i ≤ 5
    · rw [if_pos h5, decide_eq_false (show ¬ 5 < i by omega), bx_drop (fun x hx => ha x (List.mem_of_mem_take hx)) (by rw [List.length_take]; omega) hd, Option.bind_some]
      by_cases h6 : i = 5
      · rw [if_pos (by rw [List.length_take]; omega)]
        rw [if_neg (by omega), decide_eq_true (show 5 < i + 1 by omega)] at ih
        exact ih
      · rw [if_neg (by rw [List.length_take]; omega)]
        rw [if_pos (by omega), decide_eq_false (show ¬ 5 < i + 1 by omega)] at ih
        rw [List.take_append_getElem hlt]
        exact ih
    · rw [if_neg h5, decide_eq_true (show 5 < i by omega), bx_over, Option.bind_some]
      rw [if_neg (by omega), decide_eq_true (show 5 < i + 1 by omega)] at ih
      exact ih
theorem l_boxes2 {a : List (List UInt8)} (ha : ∀ x ∈ a, x.length ≤ 60) (hl : a.length ≤ 5) : ∀ (m i n : Nat), m < n → i + m = a.length → L_laws_FnBoxes_2 n (a, (bx, a.drop i, false), (i : Int)) = some (.inl (bx, [], false))
  | 0, i, n, hn, hi => by
    obtain ⟨n, rfl⟩ : ∃ j, n = j + 1 := ⟨n - 1, by omega⟩
    obtain rfl : i = a.length := by omega
    rw [e_L_laws_FnBoxes_2, decide_eq_false (show ¬ ((a.length : Int) < (a.length : Int)) by omega), cond_false, List.drop_length]
  | m + 1, i, n, hn, hi => by
    obtain ⟨n, rfl⟩ : ∃ j, n = j + 1 := ⟨n - 1, by omega⟩
    have hlt : i < a.length := by omega
    have hy : a[i]? = some a[i] := List.getElem?_eq_getElem hlt
    have hdr : a.drop i = a[i] :: a.drop (i + 1) := List.drop_eq_getElem_cons hlt
    have hmem : ∀ x ∈ a[i] :: a.drop (i + 1), x.length ≤ 60 := fun x hx => ha x (List.mem_of_mem_drop (hdr ▸ hx))
    rw [e_L_laws_FnBoxes_2, decide_eq_true (show ((i : Int) < (a.length : Int)) by omega), cond_true, hdr, bx_fetch hmem (by rw [← hdr, List.length_drop]; omega), Option.bind_some]
    simp only [Int.toNat_natCast, Bool.not_true, cond_false, Int.natCast_nonneg, if_true, hlt, hy, Option.bind_some, Sum.elim_inl, beq_self_eq_true]
    rw [wrap_ok (by omega) (by omega)]
    exact l_boxes2 ha hl m (i + 1) n (by omega) (by omega)
theorem law_FnBoxes (a : List Int) (h : (ET.sl false (.int .u8)).ok a) : T_laws_FnBoxes a = some true := by
  rw [e_T_laws_FnBoxes, e_T_laws_big]
  by_cases h1 : 1048576 < (a.length : Int)
  · simp [h1]
  · have ha : a.length ≤ 1048576 := by omega
    obtain ⟨l, g1, g2, g3⟩ := x_DrawTexts ha
    have g4 : ∀ x ∈ l, x.length ≤ 60 := fun x hx => Nat.le_trans (g3 x hx) (by omega)
    have hL := l_boxes1 g4 g2 l.length 0 fuel (by simp only [fuel]; omega) (by omega)
    have hL' : L_laws_FnBoxes_1 fuel (l, ([{ toBitVec := { toFin := ⟨98, Nat.mod_lt 98 (BitVec.ofNat._proof_1 8)⟩ } }, { toBitVec := { toFin := ⟨111, Nat.mod_lt 111 (BitVec.ofNat._proof_1 8)⟩ } }, { toBitVec := { toFin := ⟨120, Nat.mod_lt 120 (BitVec.ofNat._proof_1 8)⟩ } }], [], false), 0) = some (.inl (l, bx, (if l.length ≤ 5 then l else []), decide (5 < l.length))) := hL
    rw [decide_eq_false h1]
    simp only [Option.bind_some, cond_false, g1, hL', Sum.elim_inl]
    by_cases h5 : l.length ≤ 5
    · rw [if_pos h5, decide_eq_false (show ¬ 5 < l.length by omega), bx_ok g4 h5 (fun h => by cases h)]
      have hM := l_boxes2 g4 h5 l.length 0 fuel (by simp only [fuel]; omega) (by omega)
      rw [List.drop_zero, show ((0 : Nat) : Int) = (0 : Int) from rfl] at hM
      simp only [Option.bind_some, Bool.not_true, cond_false, decide_eq_false (show ¬ 5 < (l.length : Int) by omega), beq_self_eq_true, Bool.not_false, Sum.elim_inl, hM, bx_none]
    · rw [if_neg h5, decide_eq_true (show 5 < l.length by omega), bx_ok (fun x hx => by cases hx) (by simp) (fun _ => rfl)]
      simp only [Option.bind_some, Bool.not_true, cond_false, decide_eq_true (show 5 < (l.length : Int) by omega), beq_self_eq_true, Sum.elim_inl, cond_true, bx_none, Bool.not_false]
      rw [bx_over]
      rfl
end Xs
end Go.Proofs.Ytfepabohinkpgaa
