/- What the reference's function answers, and the program's: the same. -/
import Derived.Test.YtainknkfjekngaaDoorXMgPb
namespace Go.Proofs.YtainknkfjekngaaDoor
open Go Vm
set_option linter.unusedVariables false
set_option linter.unusedSimpArgs false
namespace Xs
/-- A loop that keeps those that a test lets through. -/
theorem filt_loop {α σ τ β : Type} {L : Nat → σ → Option (τ ⊕ β)} (a : List α) (st : List α → Int → σ) (fin : List α → τ) (p : α → Bool) (acc0 : List α) (hlen : a.length ≤ 1048576)
    (hstep : ∀ n acc (i : Nat) y, a[i]? = some y → i < a.length → acc.length ≤ acc0.length + i → L (n + 1) (st acc (i : Int)) = L n (st (bif p y then acc ++ [y] else acc) ((i : Int) + 1)))
    (hend : ∀ n acc, L (n + 1) (st acc (a.length : Int)) = some (.inl (fin acc))) : L fuel (st acc0 0) = some (.inl (fin (acc0 ++ a.filter p))) := by
  suffices h : ∀ (s : List α) (i n : Nat) (acc : List α), a.drop i = s → i + s.length = a.length → acc.length ≤ acc0.length + i → s.length < n → L n (st acc (i : Int)) = some (.inl (fin (acc ++ s.filter p))) by
    have := h a 0 fuel acc0 rfl (by omega) (by omega) (by simp only [fuel]; omega)
    exact this
  intro s
  induction s with
  | nil =>
    intro i n acc h1 h2 h3 h4
    obtain ⟨n, rfl⟩ : ∃ m, n = m + 1 := ⟨n - 1, by simp at h4; omega⟩
    simp only [List.length_nil, Nat.add_zero] at h2
    rw [h2, hend, List.filter_nil, List.append_nil]
  | cons x s ih =>
    intro i n acc h1 h2 h3 h4
    simp only [List.length_cons] at h2 h4
    obtain ⟨n, rfl⟩ : ∃ m, n = m + 1 := ⟨n - 1, by omega⟩
    have hx : a[i]? = some x := by
      have := congrArg (fun l => l[0]?) h1
      simpa using this
    have t3 : a.drop (i + 1) = s := by rw [← List.drop_drop, h1]; rfl
    rw [hstep n acc i x hx (by omega) h3]
    have hi := ih (i + 1) n (bif p x then acc ++ [x] else acc) t3 (by omega) (by cases p x <;> simp <;> omega) (by omega)
    rw [show ((i + 1 : Nat) : Int) = (i : Int) + 1 by omega] at hi
    rw [hi, List.filter_cons]
    cases p x with
    | true => simp
    | false => simp
theorem x_l03Insert {a : List (List UInt8)} (b : List UInt8) (ha : a.length ≤ 1048576) : T_spec_l03Insert (a, b) = some (insT a b) := by
  have h1 := filt_loop (L := L_spec_l03Insert_1) a (fun acc i => (a, b, acc, i)) (fun acc => (a, b, acc)) (fun y => Op.bytesLess y b) [] ha (fun n acc i y hy hi hacc => by
    simp only [List.length_nil] at hacc
    rw [e_L_spec_l03Insert_1]
    simp only [decide_eq_true (show (i : Int) < (a.length : Int) by omega), cond_true, Int.natCast_nonneg, if_true, Int.toNat_natCast, hy, Option.bind_some]
    cases Op.bytesLess y b with
    | true => simp only [cond_true, if_pos (show (acc.length + 1) * 16 ≤ 140737488355328 ∧ acc.length + 1 ≤ 9223372036854775807 by omega), Option.bind_some, Sum.elim_inl, List.append_eq, wrap_ok (n := (i : Int) + 1) (by omega) (by omega)]
    | false => simp only [cond_false, Option.bind_some, Sum.elim_inl, wrap_ok (n := (i : Int) + 1) (by omega) (by omega)])
    (fun n acc => by rw [e_L_spec_l03Insert_1]; simp)
  have hl := List.length_filter_le (fun y => Op.bytesLess y b) a
  have h2 := filt_loop (L := L_spec_l03Insert_2) a (fun acc i => (a, b, acc, i)) (fun acc => acc) (fun y => !(Op.bytesLess y b || y == b)) (a.filter (fun y => Op.bytesLess y b) ++ [b]) ha (fun n acc i y hy hi hacc => by
    rw [List.length_append, List.length_singleton] at hacc
    rw [e_L_spec_l03Insert_2]
    simp only [decide_eq_true (show (i : Int) < (a.length : Int) by omega), cond_true, Int.natCast_nonneg, if_true, Int.toNat_natCast, hy, Option.bind_some]
    cases (Op.bytesLess y b || y == b) with
    | false => simp only [Bool.not_false, cond_true, if_pos (show (acc.length + 1) * 16 ≤ 140737488355328 ∧ acc.length + 1 ≤ 9223372036854775807 by omega), Option.bind_some, Sum.elim_inl, List.append_eq, wrap_ok (n := (i : Int) + 1) (by omega) (by omega)]
    | true => simp only [Bool.not_true, cond_false, Option.bind_some, Sum.elim_inl, wrap_ok (n := (i : Int) + 1) (by omega) (by omega)])
    (fun n acc => by rw [e_L_spec_l03Insert_2]; simp)
  rw [e_T_spec_l03Insert, h1]
  simp only [Option.bind_some, Sum.elim_inl, List.nil_append, if_pos (show ((a.filter (fun y => Op.bytesLess y b)).length + 1) * 16 ≤ 140737488355328 ∧ (a.filter (fun y => Op.bytesLess y b)).length + 1 ≤ 9223372036854775807 by omega), List.append_eq, h2]
  unfold insT loF hiF
  simp only [id, List.append_assoc, List.cons_append, List.nil_append]
def setG (t : List GroupT) (g : List UInt8) (ms : List (List UInt8)) : List GroupT := loF Prod.fst g t ++ ((bif decide (0 < (ms.length : Int)) then [(g, ms)] else []) ++ hiF Prod.fst g t)
def memG (t : List GroupT) (g : List UInt8) : List (List UInt8) := match t.find? (fun y => y.1 == g) with
  | some y => y.2
  | none => []
theorem x_l17Set {t : List GroupT} (g : List UInt8) (ms : List (List UInt8)) (ht : t.length ≤ 1048576) : T_spec_l17Set (t, g, ms) = some (setG t g ms) := by
  have h1 := filt_loop (L := L_spec_l17Set_1) t (fun acc i => (g, ms, t, [], acc, i)) (fun acc => (g, ms, t, [], acc)) (fun y => Op.bytesLess y.1 g) [] ht (fun n acc i y hy hi hacc => by
    simp only [List.length_nil] at hacc
    rw [e_L_spec_l17Set_1]
    simp only [decide_eq_true (show (i : Int) < (t.length : Int) by omega), cond_true, Int.natCast_nonneg, if_true, Int.toNat_natCast, hy, Option.bind_some]
    cases Op.bytesLess y.1 g with
    | true => simp only [cond_true, if_pos (show (acc.length + 1) * 40 ≤ 140737488355328 ∧ acc.length + 1 ≤ 9223372036854775807 by omega), Option.bind_some, Sum.elim_inl, List.append_eq, wrap_ok (n := (i : Int) + 1) (by omega) (by omega)]
    | false => simp only [cond_false, Option.bind_some, Sum.elim_inl, wrap_ok (n := (i : Int) + 1) (by omega) (by omega)])
    (fun n acc => by rw [e_L_spec_l17Set_1]; simp)
  have hl := List.length_filter_le (fun y : GroupT => Op.bytesLess y.1 g) t
  have h2 := fun (acc0 : List GroupT) (h0 : acc0.length ≤ 1048577) => filt_loop (L := L_spec_l17Set_2) t (fun acc i => (g, t, [], acc, i)) (fun acc => (([] : List GroupT), acc)) (fun y => !(Op.bytesLess y.1 g || y.1 == g)) acc0 ht (fun n acc i y hy hi hacc => by
    rw [e_L_spec_l17Set_2]
    simp only [decide_eq_true (show (i : Int) < (t.length : Int) by omega), cond_true, Int.natCast_nonneg, if_true, Int.toNat_natCast, hy, Option.bind_some]
    cases (Op.bytesLess y.1 g || y.1 == g) with
    | false => simp only [Bool.not_false, cond_true, if_pos (show (acc.length + 1) * 40 ≤ 140737488355328 ∧ acc.length + 1 ≤ 9223372036854775807 by omega), Option.bind_some, Sum.elim_inl, List.append_eq, wrap_ok (n := (i : Int) + 1) (by omega) (by omega)]
    | true => simp only [Bool.not_true, cond_false, Option.bind_some, Sum.elim_inl, wrap_ok (n := (i : Int) + 1) (by omega) (by omega)])
    (fun n acc => by rw [e_L_spec_l17Set_2]; simp)
  rw [e_T_spec_l17Set, h1]
  simp only [Option.bind_some, Sum.elim_inl, List.nil_append]
  unfold setG loF hiF
  cases decide (0 < (ms.length : Int)) with
  | true =>
    simp only [cond_true, if_pos (show ((t.filter (fun y : GroupT => Op.bytesLess y.1 g)).length + 1) * 40 ≤ 140737488355328 ∧ (t.filter (fun y : GroupT => Op.bytesLess y.1 g)).length + 1 ≤ 9223372036854775807 by omega), Option.bind_some, Sum.elim_inl, List.append_eq]
    rw [h2 _ (by rw [List.length_append, List.length_singleton]; omega)]
    simp only [Option.bind_some, Sum.elim_inl, List.append_assoc]
  | false =>
    simp only [cond_false, Option.bind_some, Sum.elim_inl]
    rw [h2 _ (by omega)]
    simp only [Option.bind_some, Sum.elim_inl, List.nil_append]
theorem x_memG {t : List GroupT} (g : List UInt8) (ht : t.length ≤ 1048576) (hm : ∀ y ∈ t, y.2.length ≤ 1048576) : T_spec_MembersOf (t, g) = some (memG t g) := by
  suffices h : ∀ (s : List GroupT) (i n : Nat), t.drop i = s → i + s.length = t.length → s.length < n → L_spec_MembersOf_1 n (g, t, (i : Int)) = some (match s.find? (fun y => y.1 == g) with | some y => .inr y.2 | none => .inl ()) by
    have := h t 0 fuel rfl (by omega) (by simp only [fuel]; omega)
    rw [show ((0 : Nat) : Int) = 0 from rfl] at this
    rw [e_T_spec_MembersOf, this]
    unfold memG
    cases t.find? (fun y => y.1 == g) <;> rfl
  intro s
  induction s with
  | nil =>
    intro i n h1 h2 h4
    obtain ⟨n, rfl⟩ : ∃ m, n = m + 1 := ⟨n - 1, by simp at h4; omega⟩
    simp only [List.length_nil, Nat.add_zero] at h2
    rw [e_L_spec_MembersOf_1]
    simp only [decide_eq_false (show ¬ (i : Int) < (t.length : Int) by omega), cond_false, List.find?_nil]
  | cons x s ih =>
    intro i n h1 h2 h4
    simp only [List.length_cons] at h2 h4
    obtain ⟨n, rfl⟩ : ∃ m, n = m + 1 := ⟨n - 1, by omega⟩
    have hx : t[i]? = some x := by
      have := congrArg (fun l => l[0]?) h1
      simpa using this
    have t3 : t.drop (i + 1) = s := by rw [← List.drop_drop, h1]; rfl
    have hxm := hm x (List.mem_of_getElem? hx)
    rw [e_L_spec_MembersOf_1]
    simp only [decide_eq_true (show (i : Int) < (t.length : Int) by omega), cond_true, Int.natCast_nonneg, if_true, Int.toNat_natCast, hx, Option.bind_some, List.find?_cons]
    cases x.1 == g with
    | true => simp only [cond_true, if_pos (show (0 + x.2.length) * 16 ≤ 140737488355328 ∧ 0 + x.2.length ≤ 9223372036854775807 by omega)]
    | false =>
      have := ih (i + 1) n t3 (by omega) (by omega)
      rw [show ((i + 1 : Nat) : Int) = (i : Int) + 1 by omega] at this
      simp only [cond_false, wrap_ok (n := (i : Int) + 1) (by omega) (by omega), this]
theorem clone_ok {a : List (List UInt8)} (h : a.length ≤ 1048576) : T_slices_Clone___string_string_ a = some a := by
  rw [e_T_slices_Clone___string_string_, if_pos (by omega)]
  cases a with
  | nil => exact both_same
  | cons => rfl
theorem x_copyS {t : List GroupT} (ht : t.length ≤ 1048576) (hm : ∀ y ∈ t, y.2.length ≤ 1048576) : T_spec_l17Copy t = some t ∧ T_impl_copyTable t = some t := by
  have hf : t.filter (fun _ => true) = t := List.filter_eq_self.2 (fun _ _ => rfl)
  constructor
  · have h1 := filt_loop (L := L_spec_l17Copy_1) t (fun acc i => (t, [], acc, i)) (fun acc => (([] : List GroupT), acc)) (fun _ => true) [] ht (fun n acc i y hy hi hacc => by
      simp only [List.length_nil] at hacc
      have hym := hm y (List.mem_of_getElem? hy)
      rw [e_L_spec_l17Copy_1]
      simp only [decide_eq_true (show (i : Int) < (t.length : Int) by omega), cond_true, Int.natCast_nonneg, if_true, Int.toNat_natCast, hy, Option.bind_some, if_pos (show (0 + y.2.length) * 16 ≤ 140737488355328 ∧ 0 + y.2.length ≤ 9223372036854775807 by omega), if_pos (show (acc.length + 1) * 40 ≤ 140737488355328 ∧ acc.length + 1 ≤ 9223372036854775807 by omega), List.append_eq, wrap_ok (n := (i : Int) + 1) (by omega) (by omega)])
      (fun n acc => by rw [e_L_spec_l17Copy_1]; simp)
    rw [e_T_spec_l17Copy, h1, hf]; rfl
  · have h1 := filt_loop (L := L_impl_copyTable_1) t (fun acc i => ([], acc, t, (t.length : Int), i)) (fun acc => (([] : List GroupT), acc)) (fun _ => true) [] ht (fun n acc i y hy hi hacc => by
      simp only [List.length_nil] at hacc
      have hym := hm y (List.mem_of_getElem? hy)
      rw [e_L_impl_copyTable_1]
      simp only [decide_eq_true (show (i : Int) < (t.length : Int) by omega), cond_true, Int.natCast_nonneg, if_true, Int.toNat_natCast, hy, Option.bind_some, clone_ok hym, if_pos (show (acc.length + 1) * 40 ≤ 140737488355328 ∧ acc.length + 1 ≤ 9223372036854775807 by omega), List.append_eq, wrap_ok (n := (i : Int) + 1) (by omega) (by omega)])
      (fun n acc => by rw [e_L_impl_copyTable_1]; simp)
    rw [e_T_impl_copyTable, h1, hf]; rfl
end Xs
end Go.Proofs.YtainknkfjekngaaDoor
