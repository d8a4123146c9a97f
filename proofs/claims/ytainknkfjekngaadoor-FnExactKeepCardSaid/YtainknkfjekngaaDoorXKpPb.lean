/- What the reference's function answers, and the program's: the same. -/
import Derived.Test.YtainknkfjekngaaDoorXKpPa
namespace Go.Proofs.YtainknkfjekngaaDoor
open Go Vm
set_option linter.unusedVariables false
set_option linter.unusedSimpArgs false
namespace Xs
noncomputable def nmB (y : List UInt8) : Bool := (T_impl_NameOk y).getD false
theorem nmB_ok {y : List UInt8} (h : y.length ≤ 1048576) : T_spec_NameOk y = some (nmB y) ∧ T_impl_NameOk y = some (nmB y) := by
  obtain ⟨v, h1, h2⟩ := x_NameOk (a := y) (by rw [maxLen_eq]; omega)
  unfold nmB; rw [h1, h2]; exact ⟨rfl, rfl⟩
def upB (z y : List UInt8) : Bool := !(Op.bytesLess y z || y == z)
def ordB (a : List (List UInt8)) (i : Nat) (y : List UInt8) : Bool := bif decide (0 < i) then upB (a.getD (i - 1) []) y else true
theorem run_false {α : Type} {p : Nat → α → Bool} : ∀ (l : List α) (k : Nat), runL (fun i y (_ : Unit) => bif p i y then (.inl () : Unit ⊕ Bool) else .inr false) k l () = .inl () ∨ runL (fun i y (_ : Unit) => bif p i y then (.inl () : Unit ⊕ Bool) else .inr false) k l () = .inr false
  | [], _ => .inl rfl
  | y :: l, k => by
    simp only [runL]
    cases p k y with
    | true => exact run_false l (k + 1)
    | false => exact .inr rfl
abbrev GroupT := List UInt8 × List (List UInt8)
theorem bl_irr (a : List UInt8) : Op.bytesLess a a = false := by
  have := less_not a a
  cases h : Op.bytesLess a a with
  | false => rfl
  | true => rw [h] at this; cases this
theorem bl_asym {a b : List UInt8} (h : Op.bytesLess a b = true) : Op.bytesLess b a = false := by
  have := less_not a b
  rw [h] at this
  cases h2 : Op.bytesLess b a with
  | false => rfl
  | true => rw [h2] at this; cases this
theorem bl_tri {a b : List UInt8} (h : Op.bytesLess a b = false) (hn : a ≠ b) : Op.bytesLess b a = true := by
  have := less_not a b
  rw [h, show (b == a) = false from beq_eq_false_iff_ne.2 (Ne.symm hn), Bool.or_false] at this
  exact this.symm
theorem bl_ne {a b : List UInt8} (h : Op.bytesLess a b = true) : a ≠ b := fun e => by rw [e, bl_irr] at h; cases h
theorem bl_trans : ∀ {a b c : List UInt8}, Op.bytesLess a b = true → Op.bytesLess b c = true → Op.bytesLess a c = true
  | _, [], _, h, _ => by cases ‹List UInt8› <;> simp [Op.bytesLess] at h
  | _, _ :: _, [], _, h => by simp [Op.bytesLess] at h
  | [], _ :: _, _ :: _, _, _ => rfl
  | x :: a, y :: b, z :: c, h1, h2 => by
    simp only [Op.bytesLess, Bool.or_eq_true, decide_eq_true_eq, Bool.and_eq_true, beq_iff_eq] at h1 h2 ⊢
    rcases h1 with h1 | ⟨rfl, h1⟩
    · rcases h2 with h2 | ⟨rfl, h2⟩
      · left; simp only [UInt8.lt_iff_toNat_lt] at *; omega
      · exact .inl h1
    · rcases h2 with h2 | ⟨rfl, h2⟩
      · exact .inl h2
      · exact .inr ⟨rfl, bl_trans h1 h2⟩
/-- Ascending by a key. -/
def Srt {α : Type} (f : α → List UInt8) (l : List α) : Prop := l.Pairwise fun x y => Op.bytesLess (f x) (f y) = true
def loF {α : Type} (f : α → List UInt8) (g : List UInt8) (l : List α) : List α := l.filter fun y => Op.bytesLess (f y) g
def hiF {α : Type} (f : α → List UInt8) (g : List UInt8) (l : List α) : List α := l.filter fun y => !(Op.bytesLess (f y) g || f y == g)
theorem srt_split {α : Type} {f : α → List UInt8} (g : List UInt8) : ∀ {l : List α}, Srt f l → ∃ L R, l = L ++ R ∧ (∀ x ∈ L, Op.bytesLess (f x) g = true) ∧ (∀ x ∈ R, Op.bytesLess (f x) g = false) ∧ ∀ y R', R = y :: R' → ∀ x ∈ R', Op.bytesLess g (f x) = true
  | [], _ => ⟨[], [], rfl, by simp, by simp, by simp⟩
  | x :: l, h => by
    have hx := (List.pairwise_cons.1 h).1
    have hl := (List.pairwise_cons.1 h).2
    cases hg : Op.bytesLess (f x) g with
    | true =>
      obtain ⟨L, R, rfl, h1, h2, h3⟩ := srt_split g (f := f) hl
      exact ⟨x :: L, R, rfl, fun y hy => (List.mem_cons.1 hy).elim (fun e => e ▸ hg) (h1 y), h2, h3⟩
    | false =>
      have hgt : ∀ y ∈ l, Op.bytesLess g (f y) = true := fun y hy => by
        by_cases e : f x = g
        · rw [← e]; exact hx y hy
        · exact bl_trans (bl_tri hg e) (hx y hy)
      refine ⟨[], x :: l, rfl, by simp, fun y hy => ?_, fun y R' e z hz => ?_⟩
      · rcases List.mem_cons.1 hy with rfl | hy
        · exact hg
        · exact bl_asym (hgt y hy)
      · obtain ⟨_, rfl⟩ := List.cons.inj e
        exact hgt z hz
theorem lo_of {α : Type} {f : α → List UInt8} {g : List UInt8} {L R : List α} (h1 : ∀ x ∈ L, Op.bytesLess (f x) g = true) (h2 : ∀ x ∈ R, Op.bytesLess (f x) g = false) : loF f g (L ++ R) = L := by
  unfold loF
  rw [List.filter_append, List.filter_eq_self.2 h1, List.filter_eq_nil_iff.2 (fun x hx => by rw [h2 x hx]; decide), List.append_nil]
theorem hi_of {α : Type} {f : α → List UInt8} {g : List UInt8} {L R : List α} (h1 : ∀ x ∈ L, Op.bytesLess (f x) g = true) (h2 : ∀ x ∈ R, Op.bytesLess g (f x) = true) : hiF f g (L ++ R) = R := by
  unfold hiF
  rw [List.filter_append, List.filter_eq_nil_iff.2 (fun x hx => by rw [h1 x hx]; simp), List.nil_append]
  exact List.filter_eq_self.2 fun x hx => by
    rw [bl_asym (h2 x hx), show (f x == g) = false from beq_eq_false_iff_ne.2 (Ne.symm (bl_ne (h2 x hx)))]; rfl
theorem hi_of' {α : Type} {f : α → List UInt8} {g : List UInt8} {L R : List α} {y : α} (h1 : ∀ x ∈ L, Op.bytesLess (f x) g = true) (hy : f y = g) (h2 : ∀ x ∈ R, Op.bytesLess g (f x) = true) : hiF f g (L ++ y :: R) = R := by
  have h := hi_of (f := f) (g := g) h1 h2
  unfold hiF at h ⊢
  rw [List.filter_append] at h ⊢
  rw [List.filter_cons, hy, beq_self_eq_true, Bool.or_true, if_neg (by decide)]
  exact h
theorem lo_srt {α : Type} {f : α → List UInt8} {g : List UInt8} {l : List α} (h : Srt f l) : Srt f (loF f g l) := List.Pairwise.filter _ h
theorem hi_srt {α : Type} {f : α → List UInt8} {g : List UInt8} {l : List α} (h : Srt f l) : Srt f (hiF f g l) := List.Pairwise.filter _ h
theorem hi_gt {α : Type} {f : α → List UInt8} {g : List UInt8} {l : List α} {y : α} (h : y ∈ hiF f g l) : Op.bytesLess g (f y) = true := by
  have := (List.mem_filter.1 h).2
  simp only [Bool.not_eq_true', Bool.or_eq_false_iff] at this
  exact bl_tri this.1 (beq_eq_false_iff_ne.1 this.2)
theorem lo_lt {α : Type} {f : α → List UInt8} {g : List UInt8} {l : List α} {y : α} (h : y ∈ loF f g l) : Op.bytesLess (f y) g = true := (List.mem_filter.1 h).2
/-- One put among ascending ones. -/
theorem mid_srt {α : Type} {f : α → List UInt8} {g : List UInt8} {l : List α} {m : α} (h : Srt f l) (hm : f m = g) : Srt f (loF f g l ++ m :: hiF f g l) := by
  refine List.pairwise_append.2 ⟨lo_srt h, List.pairwise_cons.2 ⟨fun y hy => by rw [hm]; exact hi_gt hy, hi_srt h⟩, fun x hx y hy => ?_⟩
  rcases List.mem_cons.1 hy with rfl | hy
  · rw [hm]; exact lo_lt hx
  · exact bl_trans (lo_lt hx) (hi_gt hy)
/-- A text put into an ascending list. -/
def insT (l : List (List UInt8)) (x : List UInt8) : List (List UInt8) := loF id x l ++ x :: hiF id x l
theorem insT_srt {l : List (List UInt8)} (h : Srt id l) (x : List UInt8) : Srt id (insT l x) := mid_srt h rfl
theorem lohi_len {α : Type} (f : α → List UInt8) (g : List UInt8) : ∀ l : List α, (loF f g l).length + (hiF f g l).length ≤ l.length
  | [] => Nat.le_refl 0
  | y :: l => by
    have := lohi_len f g l
    have e1 : (loF f g (y :: l)).length = (loF f g l).length + (bif Op.bytesLess (f y) g then 1 else 0) := by
      unfold loF; rw [List.filter_cons]
      cases Op.bytesLess (f y) g <;> rfl
    have e2 : (hiF f g (y :: l)).length = (hiF f g l).length + (bif Op.bytesLess (f y) g || f y == g then 0 else 1) := by
      unfold hiF; rw [List.filter_cons]
      cases (Op.bytesLess (f y) g || f y == g) <;> rfl
    rw [e1, e2, List.length_cons]
    cases Op.bytesLess (f y) g <;> cases (f y == g) <;> simp only [cond_true, cond_false, Bool.or_true, Bool.or_false, Bool.false_or] <;> omega
theorem insT_len (l : List (List UInt8)) (x : List UInt8) : (insT l x).length ≤ l.length + 1 := by
  have := lohi_len id x l
  unfold insT
  rw [List.length_append, List.length_cons]; omega
end Xs
end Go.Proofs.YtainknkfjekngaaDoor
