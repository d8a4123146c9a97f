/- Plain laws: of loops, of lists, of numbers that keep to 64 bits. -/
import Derived.Test.YtainknkfjekngaaDoorT8
namespace Go.Proofs.YtainknkfjekngaaDoor.Vm
open Go
set_option linter.unusedVariables false
set_option linter.unusedSimpArgs false

theorem wrap_ok {n : Int} (h1 : -9223372036854775808 ≤ n) (h2 : n ≤ 9223372036854775807) : IntKind.i64.wrap n = n := by
  rw [IntKind.wrap_i64]; omega
theorem wrap_lo (n : Int) : -9223372036854775808 ≤ IntKind.i64.wrap n := by
  rw [IntKind.wrap_i64]; omega
theorem wrap_hi (n : Int) : IntKind.i64.wrap n ≤ 9223372036854775807 := by
  rw [IntKind.wrap_i64]; omega
theorem maxLen_eq : maxLen = 9223372036854775807 := rfl

theorem less_not : ∀ a b : List UInt8, (!Op.bytesLess a b) = (Op.bytesLess b a || b == a)
  | [], [] => rfl
  | [], _ :: _ => rfl
  | _ :: _, [] => rfl
  | x :: a, y :: b => by
    have ih := less_not a b
    simp only [Op.bytesLess]
    by_cases h : x = y
    · subst h
      have : ¬ x < x := by simp
      simp only [this, decide_false, Bool.false_or, beq_self_eq_true, Bool.true_and, ih]
      simp [List.cons_beq_cons]
    · have hne : (x == y) = false := by simpa using h
      have hne' : (y == x) = false := by simpa using fun e => h e.symm
      simp only [hne, hne', Bool.false_and, Bool.or_false, List.cons_beq_cons]
      by_cases hl : x < y
      · have : ¬ y < x := by simp only [UInt8.lt_iff_toNat_lt] at *; omega
        simp [hl, this]
      · have : y < x := by
          have : x.toNat ≠ y.toNat := fun e => h (UInt8.toNat_inj.1 e)
          simp only [UInt8.lt_iff_toNat_lt] at *; omega
        simp [hl, this]

theorem bif_bind {α β : Type} (c : Bool) (x y : Option α) (f : α → Option β) : (bif c then x else y).bind f = bif c then x.bind f else y.bind f := by cases c <;> rfl
theorem ite_bind {α β : Type} {c : Prop} [Decidable c] (x y : Option α) (f : α → Option β) : (if c then x else y).bind f = if c then x.bind f else y.bind f := by split <;> rfl

/-- A walk along a list: what is done of each place, and what is made of it when all are done. -/
def each {α S β : Type} (step : Nat → α → S → Option (S ⊕ β)) : Nat → List α → S → Option (S ⊕ β)
  | _, [], s => some (.inl s)
  | i, y :: l, s => (step i y s).bind (Sum.elim (each step (i + 1) l) (fun r => some (.inr r)))
theorem each_from {α S σ τ β : Type} {L : Nat → σ → Option (τ ⊕ β)} {a : List α} {st : S → Int → σ} {fin : S → τ} {step : Nat → α → S → Option (S ⊕ β)}
    (hL : ∀ n s (i : Nat) y, a[i]? = some y → L (n + 1) (st s i) = (step i y s).bind (Sum.elim (fun s' => L n (st s' ((i : Int) + 1))) (fun r => some (.inr r))))
    (hE : ∀ n s, L (n + 1) (st s a.length) = some (.inl (fin s))) :
    ∀ (l l1 : List α) (n : Nat) (s : S), a = l1 ++ l → l.length < n → L n (st s l1.length) = (each step l1.length l s).bind (Sum.elim (fun s => some (.inl (fin s))) (fun r => some (.inr r)))
  | [], l1, n, s, ha, hn => by
    obtain ⟨m, rfl⟩ : ∃ m, n = m + 1 := ⟨n - 1, by simp at hn; omega⟩
    have : l1.length = a.length := by simp [ha]
    rw [this, hE]; rfl
  | y :: l, l1, n, s, ha, hn => by
    obtain ⟨m, rfl⟩ : ∃ m, n = m + 1 := ⟨n - 1, by simp at hn; omega⟩
    have hy : a[l1.length]? = some y := by rw [ha]; simp
    rw [hL m s _ y hy]
    simp only [each, Option.bind_assoc]
    cases step l1.length y s with
    | none => rfl
    | some q =>
      cases q with
      | inr r => rfl
      | inl s' =>
        have := each_from hL hE l (l1 ++ [y]) m s' (by simp [ha]) (by simpa using hn)
        simp only [List.length_append, List.length_cons, List.length_nil, Nat.zero_add, Int.natCast_add, Int.natCast_one] at this
        exact this
theorem each_loop {α S σ τ β : Type} {L : Nat → σ → Option (τ ⊕ β)} (a : List α) (st : S → Int → σ) (fin : S → τ) (step : Nat → α → S → Option (S ⊕ β))
    (hL : ∀ n s (i : Nat) y, a[i]? = some y → L (n + 1) (st s i) = (step i y s).bind (Sum.elim (fun s' => L n (st s' ((i : Int) + 1))) (fun r => some (.inr r))))
    (hE : ∀ n s, L (n + 1) (st s a.length) = some (.inl (fin s))) (hlen : a.length ≤ maxLen) (s : S) :
    L fuel (st s 0) = (each step 0 a s).bind (Sum.elim (fun s => some (.inl (fin s))) (fun r => some (.inr r))) :=
  each_from hL hE a [] fuel s rfl (by simp only [maxLen_eq, fuel] at *; omega)

/-- What holds at a walk's end, and what where it stops. -/
theorem each_rule {α S β : Type} {step : Nat → α → S → Option (S ⊕ β)} (I : Nat → S → Prop) (R : β → Prop) :
    ∀ (l : List α) (k : Nat) (s : S), I k s → (∀ i y s, l[i]? = some y → I (k + i) s → (∃ s', step (k + i) y s = some (.inl s') ∧ I (k + i + 1) s') ∨ ∃ r, step (k + i) y s = some (.inr r) ∧ R r) →
      (∃ s', each step k l s = some (.inl s') ∧ I (k + l.length) s') ∨ ∃ r, each step k l s = some (.inr r) ∧ R r
  | [], k, s, h, _ => .inl ⟨s, rfl, h⟩
  | y :: l, k, s, h, hs => by
    simp only [each]
    rcases hs 0 y s rfl h with ⟨s', h1, h2⟩ | ⟨r, h1, h2⟩
    · rw [Nat.add_zero] at h1
      rw [h1]
      rcases each_rule I R l (k + 1) s' h2 (fun i z t hz ht => by
        have := hs (i + 1) z t (by simpa using hz) (by rwa [show k + (i + 1) = k + 1 + i by omega])
        rwa [show k + (i + 1) = k + 1 + i by omega] at this) with ⟨s2, h3, h4⟩ | ⟨r, h3, h4⟩
      · exact .inl ⟨s2, h3, by rw [List.length_cons, show k + (l.length + 1) = k + 1 + l.length by omega]; exact h4⟩
      · exact .inr ⟨r, h3, h4⟩
    · rw [Nat.add_zero] at h1
      rw [h1]
      exact .inr ⟨r, rfl, h2⟩
theorem each_congr {α S β : Type} {f g : Nat → α → S → Option (S ⊕ β)} : ∀ (l : List α) (k : Nat) (s : S), (∀ i y s, l[i]? = some y → f (k + i) y s = g (k + i) y s) → each f k l s = each g k l s
  | [], k, s, h => rfl
  | y :: l, k, s, h => by
    simp only [each]
    rw [show f k y s = g k y s from h 0 y s rfl]
    cases g k y s with
    | none => rfl
    | some q =>
      cases q with
      | inr r => rfl
      | inl s' => exact each_congr l (k + 1) s' (fun i z t hz => by have := h (i + 1) z t (by simpa using hz); rwa [show k + (i + 1) = k + 1 + i by omega] at this)

/-- What is small enough to be copied. -/
def ET.small : (e : ET) → e.den → Prop
  | .int _, _ => True
  | .str, s => s.length ≤ 1048576
  | .bool, _ => True
  | .sl _ e, l => l.length ≤ 1048576 ∧ ∀ x ∈ l, e.small x
  | .pair a b, x => a.small x.1 ∧ b.small x.2
  | .unit, _ => True
  | .rp e, x | .fn _ e, x => e.small x
  | .ho _ _, _ | .hl, _ => True
/-- A measure that says how much is left, or -1 when there is too much. -/
def SzOk (e : ET) (T : e.den × Int → Option Int) : Prop :=
  ∀ x n, e.ok x → 0 ≤ n → n ≤ 1048576 → ∃ r, T (x, n) = some r ∧ r ≤ n ∧ (0 ≤ r → e.small x)
theorem sz_sl {e : ET} {o : Bool} {T : List e.den × Int → Option Int} {L : Nat → List e.den × Int × Int → Option (Int ⊕ Int)} (body : e.den → Int → Option Int)
    (hT : ∀ a b, T (a, b) = bif decide (IntKind.i64.wrap (b - (a.length : Int)) < 0) then some (-1) else (L fuel (a, IntKind.i64.wrap (b - (a.length : Int)), 0)).bind (Sum.elim (fun y => some y) fun v => some v))
    (hL : ∀ n a b c, L (n + 1) (a, b, c) = bif decide (c < (a.length : Int)) then if 0 ≤ c then a[c.toNat]?.bind fun y => (body y b).bind fun r => bif decide (r < 0) then some (.inr (-1)) else L n (a, r, IntKind.i64.wrap (c + 1)) else none else some (.inl b))
    (hb : SzOk e fun p => body p.1 p.2) : SzOk (.sl o e) T := by
  intro a n hx h0 hn
  rw [hT]
  obtain ⟨hlen, hall⟩ := hx
  rw [maxLen_eq] at hlen
  rw [wrap_ok (by omega) (by omega)]
  by_cases hneg : n - (a.length : Int) < 0
  · exact ⟨-1, by simp [hneg], by omega, by omega⟩
  · simp only [hneg, decide_false, cond_false]
    rw [each_loop (L := L) a (fun s c => (a, s, c)) (fun s => s) (fun i y s => (body y s).bind fun r => bif decide (r < 0) then some (.inr (-1)) else some (.inl r)) (fun m s i y hy => by
        have hi := (List.getElem?_eq_some_iff.1 hy).1
        rw [hL]
        simp only [show ((i : Int) < (a.length : Int)) by omega, decide_true, cond_true, Int.natCast_nonneg, if_true, Int.toNat_natCast, hy, Option.bind_some]
        rw [wrap_ok (by omega) (by omega)]
        cases body y s with
        | none => rfl
        | some r =>
          simp only [Option.bind_some]
          by_cases hr : r < 0 <;> simp [hr]) (fun m s => by rw [hL]; simp) (by rw [maxLen_eq]; exact hlen)]
    rcases each_rule (step := fun (i : Nat) (y : e.den) s => (body y s).bind fun r => bif decide (r < 0) then some (.inr (-1)) else some (.inl r)) (fun k s => 0 ≤ s ∧ s ≤ n - (a.length : Int) ∧ ∀ i y, i < k → a[i]? = some y → e.small y) (fun r : Int => r = -1) a 0 (n - (a.length : Int)) ⟨by omega, by omega, fun i y h => by omega⟩ (fun i y s hy hI => by
        obtain ⟨h1, h2, h3⟩ := hI
        rw [Nat.zero_add] at *
        obtain ⟨r, hr, h4, h6⟩ := hb y s (hall y (List.mem_of_getElem? hy)) h1 (by omega)
        simp only at hr
        rw [hr]
        by_cases hr0 : r < 0
        · exact .inr ⟨-1, by simp [hr0], rfl⟩
        · refine .inl ⟨r, by simp [hr0], by omega, by omega, fun j z hj hz => ?_⟩
          by_cases hji : j = i
          · subst hji; rw [hy] at hz; cases hz; exact h6 (by omega)
          · exact h3 j z (by omega) hz) with ⟨s, h1, h2, h3, h4⟩ | ⟨r, h1, rfl⟩
    · rw [h1]
      refine ⟨s, rfl, by omega, fun _ => ⟨by omega, fun x hx => ?_⟩⟩
      obtain ⟨i, hi⟩ := List.getElem?_of_mem hx
      exact h4 i x (by have := (List.getElem?_eq_some_iff.1 hi).1; omega) hi
    · rw [h1]
      exact ⟨-1, rfl, by omega, by omega⟩
theorem sz_str : SzOk .str fun p => some (IntKind.i64.wrap (p.2 - (p.1.length : Int))) := by
  intro x n hx h0 hn
  have : x.length ≤ 9223372036854775807 := hx
  simp only
  rw [wrap_ok (by omega) (by omega)]
  exact ⟨_, rfl, by omega, fun h => show x.length ≤ 1048576 by omega⟩
def Sz (N : Int) (S : Prop) (o : Option Int) : Prop := ∃ r, o = some r ∧ r ≤ N ∧ (0 ≤ r → S)
theorem Sz.str {N n : Int} {S : Prop} {s : List UInt8} {k : Option Int} (hs : ET.str.ok s) (h0 : 0 ≤ n) (hn : n ≤ 1048576) (hN : n ≤ N) (hk : 0 ≤ n - (s.length : Int) → IntKind.i64.wrap (n - (s.length : Int)) = n - (s.length : Int) → ET.str.small s → Sz N S k) :
    Sz N S (bif decide (IntKind.i64.wrap (n - (s.length : Int)) < 0) then some (-1) else k) := by
  have h1 : s.length ≤ 9223372036854775807 := hs
  have hw := wrap_ok (n := n - (s.length : Int)) (by omega) (by omega)
  rw [hw]
  by_cases h : n - (s.length : Int) < 0
  · exact ⟨-1, by simp [h], by omega, by omega⟩
  · simp only [h, decide_false, cond_false]
    exact hk (by omega) hw (show s.length ≤ 1048576 by omega)
theorem Sz.call {N n : Int} {S : Prop} {e : ET} {T : e.den × Int → Option Int} {x : e.den} {k : Int → Option Int} (hT : SzOk e T) (hx : e.ok x) (h0 : 0 ≤ n) (hn : n ≤ 1048576) (hN : n ≤ N)
    (hk : ∀ r, 0 ≤ r → r ≤ n → e.small x → Sz N S (k r)) : Sz N S ((T (x, n)).bind fun r => bif decide (r < 0) then some (-1) else k r) := by
  obtain ⟨r, h1, h2, h3⟩ := hT x n hx h0 hn
  rw [h1]
  simp only [Option.bind_some]
  by_cases h : r < 0
  · exact ⟨-1, by simp [h], by omega, by omega⟩
  · simp only [h, decide_false, cond_false]
    exact hk r (by omega) h2 (h3 (by omega))
theorem Sz.fin {N r : Int} {S : Prop} (h : r ≤ N) (hS : S) : Sz N S (some r) := ⟨r, rfl, h, fun _ => hS⟩
theorem to_sl {α : Type} {T : List α → Option (List α)} {L : Nat → List α × List α × Int → Option (List α ⊕ List α)} (z : α) {a : List α} (hlen : a.length ≤ 1048576)
    (hT : T a = (L fuel (a, List.replicate a.length z, 0)).bind (Sum.elim (fun y => some y) fun v => some v))
    (hL : ∀ n b (i : Nat) y, a[i]? = some y → i < b.length → L (n + 1) (a, b, (i : Int)) = L n (a, b.set i y, (i : Int) + 1))
    (hE : ∀ n b, L (n + 1) (a, b, (a.length : Int)) = some (.inl b)) : T a = some a := by
  rw [hT]
  suffices h : ∀ (l l1 : List α) (n : Nat), a = l1 ++ l → l.length < n → L n (a, l1 ++ List.replicate l.length z, (l1.length : Int)) = some (.inl a) by
    have := h a [] fuel rfl (by simp only [fuel]; omega)
    simp only [List.nil_append, List.length_nil, Int.natCast_zero] at this
    rw [this]; rfl
  intro l
  induction l with
  | nil =>
    intro l1 n ha hn
    obtain ⟨m, rfl⟩ : ∃ m, n = m + 1 := ⟨n - 1, by simp at hn; omega⟩
    have hl : l1.length = a.length := by simp [ha]
    rw [hl, hE]; simp [ha]
  | cons y l ih =>
    intro l1 n ha hn
    obtain ⟨m, rfl⟩ : ∃ m, n = m + 1 := ⟨n - 1, by simp at hn; omega⟩
    have hy : a[l1.length]? = some y := by rw [ha]; simp
    rw [hL m _ _ y hy (by simp)]
    have := ih (l1 ++ [y]) m (by simp [ha]) (by simpa using hn)
    simp only [List.length_append, List.length_cons, List.length_nil, Nat.zero_add, Int.natCast_add, Int.natCast_one] at this
    rw [← this]
    congr 1
    refine Prod.ext rfl (Prod.ext ?_ rfl)
    simp [List.set_append, List.replicate_succ]
theorem eq_sl {α : Type} {L : Nat → List α × List α × Int → Option (Unit ⊕ Bool)} {a : List α} (hlen : a.length ≤ maxLen)
    (hL : ∀ n (i : Nat) y, a[i]? = some y → L (n + 1) (a, a, (i : Int)) = L n (a, a, (i : Int) + 1))
    (hE : ∀ n, L (n + 1) (a, a, (a.length : Int)) = some (.inl ())) : L fuel (a, a, 0) = some (.inl ()) := by
  have := each_loop (L := L) a (fun (_ : Unit) c => (a, a, c)) (fun _ => ()) (fun _ _ _ => some (.inl ())) (fun n s i y hy => by rw [hL n i y hy]; rfl) (fun n s => hE n) hlen ()
  rw [this]
  rcases each_rule (step := fun (_ : Nat) (_ : α) (_ : Unit) => some (.inl () : Unit ⊕ Bool)) (fun _ _ => True) (fun _ => False) a 0 () trivial (fun i y s _ _ => .inl ⟨(), rfl, trivial⟩) with ⟨s, h, _⟩ | ⟨r, _, h⟩
  · rw [h]; rfl
  · exact h.elim

/-- How far a mark's number may go over a value. -/
def ET.W : ET → Int
  | .int _ | .str | .bool => 1
  | .sl _ e => 1048576 * e.W
  | .pair a b => a.W + b.W
  | .unit => 0
  | .rp e | .fn _ e => e.W
  | .ho _ _ | .hl => 0
theorem W_nn : ∀ e : ET, 0 ≤ e.W
  | .int _ | .str | .bool => by simp [ET.W]
  | .unit => by simp [ET.W]
  | .sl _ e => by have := W_nn e; simp only [ET.W]; omega
  | .pair a b => by have := W_nn a; have := W_nn b; simp only [ET.W]; omega
  | .rp e | .fn _ e => by have := W_nn e; simp only [ET.W]; omega
  | .ho _ _ | .hl => by simp [ET.W]
/-- A mark goes through, and what it leaves is as Q says. -/
def MkOk (e : ET) (T : e.den × Int → Option (Int × e.den)) (Q : e.den → Int → Int → Prop) : Prop :=
  ∀ y k, e.small y → 0 ≤ k → k + e.W ≤ 4611686018427387904 → ∃ k' y', T (y, k) = some (k', y') ∧ Q y' k k' ∧ k ≤ k' ∧ k' ≤ k + e.W
def chainQ {α : Type} (Q : α → Int → Int → Prop) : List α → Int → Int → Prop
  | [], k, k' => k' = k
  | y :: l, k, k' => ∃ m, Q y k m ∧ chainQ Q l m k'
theorem mk_sl {e : ET} {o : Bool} {T : List e.den × Int → Option (Int × List e.den)} {L : Nat → List e.den × Int × Int → Option ((List e.den × Int) ⊕ (Int × List e.den))} {Q : e.den → Int → Int → Prop}
    (hT : ∀ a b, T (a, b) = (L fuel (a, b, 0)).bind (Sum.elim (fun y => some (y.2, y.1)) fun v => some v))
    (hL : ∀ a b (i : Nat) y, a[i]? = some y → e.small y → 0 ≤ b → b + e.W ≤ 4611686018427387904 → i ≤ 1048576 → ∃ b' y', (∀ n, L (n + 1) (a, b, (i : Int)) = L n (a.set i y', b', (i : Int) + 1)) ∧ Q y' b b' ∧ b ≤ b' ∧ b' ≤ b + e.W)
    (hE : ∀ n a b, L (n + 1) (a, b, (a.length : Int)) = some (.inl (a, b))) : MkOk (.sl o e) T fun l k k' => l.length ≤ 1048576 ∧ chainQ Q l k k' := by
  intro a k hs h0 hW
  obtain ⟨hlen, hall⟩ := hs
  have hW0 := W_nn e
  simp only [ET.W] at hW ⊢
  suffices h : ∀ (l l1 : List e.den) (n : Nat) (b : Int), l.length < n → l1.length + l.length ≤ 1048576 → (∀ x ∈ l, e.small x) → 0 ≤ b → b + (l.length : Int) * e.W ≤ 4611686018427387904 →
      ∃ b' l', L n (l1 ++ l, b, (l1.length : Int)) = some (.inl (l1 ++ l', b')) ∧ chainQ Q l' b b' ∧ l'.length = l.length ∧ b ≤ b' ∧ b' ≤ b + (l.length : Int) * e.W by
    have hm : (a.length : Int) * e.W ≤ 1048576 * e.W := Int.mul_le_mul_of_nonneg_right (by omega) hW0
    obtain ⟨b', l', h1, h2, h3, h4, h5⟩ := h a [] fuel k (by simp only [fuel]; omega) (by simpa using hlen) hall h0 (by omega)
    refine ⟨b', l', ?_, ⟨by omega, h2⟩, h4, by omega⟩
    rw [hT]
    simp only [List.nil_append, List.length_nil, Int.natCast_zero] at h1
    rw [h1]; rfl
  intro l
  induction l with
  | nil =>
    intro l1 n b hn _ _ _ _
    obtain ⟨m, rfl⟩ : ∃ m, n = m + 1 := ⟨n - 1, by simp at hn; omega⟩
    refine ⟨b, [], ?_, rfl, rfl, by omega, by simp⟩
    simp only [List.append_nil]
    exact hE m l1 b
  | cons y l ih =>
    intro l1 n b hn hl hall h0 hB
    obtain ⟨m, rfl⟩ : ∃ m, n = m + 1 := ⟨n - 1, by simp at hn; omega⟩
    simp only [List.length_cons, Int.natCast_add, Int.natCast_one, Int.add_mul, Int.one_mul] at hB hl hn ⊢
    have hm0 : 0 ≤ (l.length : Int) * e.W := Int.mul_nonneg (by omega) hW0
    obtain ⟨b1, y', h1, h2, h3, h4⟩ := hL (l1 ++ y :: l) b l1.length y (by simp) (hall y (by simp)) h0 (by omega) (by omega)
    obtain ⟨b', l', g1, g2, g3, g4, g5⟩ := ih (l1 ++ [y']) m b1 (by omega) (by simp; omega) (fun x hx => hall x (by simp [hx])) (by omega) (by omega)
    refine ⟨b', y' :: l', ?_, ⟨b1, h2, g2⟩, by simp [g3], by omega, by omega⟩
    rw [h1 m]
    simp only [List.length_append, List.length_cons, List.length_nil, Nat.zero_add, Int.natCast_add, Int.natCast_one, List.append_assoc, List.singleton_append] at g1
    rw [← g1]
    congr 2
    simp
theorem hd_sl {α : Type} {T : List α × Int → Option Int} {L : Nat → List α × Int × Int → Option (Int ⊕ Int)} {Q : α → Int → Int → Prop}
    (hT : ∀ a b, T (a, b) = (L fuel (a, b, 0)).bind (Sum.elim (fun y => some y) fun v => some v))
    (hL : ∀ a b b' (i : Nat) y, a[i]? = some y → Q y b b' → i ≤ 1048576 → ∀ n, L (n + 1) (a, b, (i : Int)) = L n (a, b', (i : Int) + 1))
    (hE : ∀ n a b, L (n + 1) (a, b, (a.length : Int)) = some (.inl b)) {l : List α} {k k' : Int} (hl : l.length ≤ 1048576) (h : chainQ Q l k k') : T (l, k) = some k' := by
  rw [hT]
  suffices hh : ∀ (l l1 : List α) (n : Nat) (b : Int), l.length < n → l1.length + l.length ≤ 1048576 → chainQ Q l b k' → L n (l1 ++ l, b, (l1.length : Int)) = some (.inl k') by
    have := hh l [] fuel k (by simp only [fuel]; omega) (by simpa using hl) h
    simp only [List.nil_append, List.length_nil, Int.natCast_zero] at this
    rw [this]; rfl
  intro l
  induction l with
  | nil =>
    intro l1 n b hn _ hc
    obtain ⟨m, rfl⟩ : ∃ m, n = m + 1 := ⟨n - 1, by simp at hn; omega⟩
    obtain rfl : k' = b := hc
    rw [List.append_nil]
    exact hE m l1 _
  | cons y l ih =>
    intro l1 n b hn hl hc
    obtain ⟨m, rfl⟩ : ∃ m, n = m + 1 := ⟨n - 1, by simp at hn; omega⟩
    obtain ⟨b1, h1, h2⟩ := hc
    simp only [List.length_cons] at hl hn
    rw [hL (l1 ++ y :: l) b b1 l1.length y (by simp) h1 (by omega) m]
    have := ih (l1 ++ [y]) m b1 (by omega) (by simp; omega) h2
    simp only [List.length_append, List.length_cons, List.length_nil, Nat.zero_add, Int.natCast_add, Int.natCast_one, List.append_assoc, List.singleton_append] at this
    exact this
theorem MkOk.mono {e : ET} {T : e.den × Int → Option (Int × e.den)} {Q Q' : e.den → Int → Int → Prop} (h : MkOk e T Q) (hq : ∀ y k k', Q y k k' → Q' y k k') : MkOk e T Q' := by
  intro y k h1 h2 h3
  obtain ⟨k', y', g1, g2, g3, g4⟩ := h y k h1 h2 h3
  exact ⟨k', y', g1, hq _ _ _ g2, g3, g4⟩

/-- A loop along a list, with what holds at each place. -/
theorem loop_rule {α S σ τ β : Type} {L : Nat → σ → Option (τ ⊕ β)} (a : List α) (st : S → Int → σ) (fin : S → τ) (I : Nat → S → Prop) (R : β → Prop)
    (hL : ∀ (i : Nat) y s, a[i]? = some y → i < a.length → I i s → (∃ s', I (i + 1) s' ∧ ∀ n, L (n + 1) (st s i) = L n (st s' ((i : Int) + 1))) ∨ ∃ r, R r ∧ ∀ n, L (n + 1) (st s i) = some (.inr r))
    (hE : ∀ n s, I a.length s → L (n + 1) (st s a.length) = some (.inl (fin s))) (hlen : a.length ≤ maxLen) (s : S) (h0 : I 0 s) :
    (∃ s', I a.length s' ∧ L fuel (st s 0) = some (.inl (fin s'))) ∨ ∃ r, R r ∧ L fuel (st s 0) = some (.inr r) := by
  suffices h : ∀ (j i : Nat) (n : Nat) (s : S), i + j = a.length → j < n → I i s → (∃ s', I a.length s' ∧ L n (st s i) = some (.inl (fin s'))) ∨ ∃ r, R r ∧ L n (st s i) = some (.inr r) by
    exact h a.length 0 fuel s (by omega) (by simp only [maxLen_eq, fuel] at *; omega) h0
  intro j
  induction j with
  | zero =>
    intro i n s hi hn hI
    obtain ⟨m, rfl⟩ : ∃ m, n = m + 1 := ⟨n - 1, by omega⟩
    obtain rfl : i = a.length := by omega
    exact .inl ⟨s, hI, hE m s hI⟩
  | succ j ih =>
    intro i n s hi hn hI
    obtain ⟨m, rfl⟩ : ∃ m, n = m + 1 := ⟨n - 1, by omega⟩
    rcases hL i _ s (List.getElem?_eq_getElem (by omega)) (by omega) hI with ⟨s', h1, h2⟩ | ⟨r, h1, h2⟩
    · rw [h2 m]
      exact ih (i + 1) m s' (by omega) (by omega) h1
    · exact .inr ⟨r, h1, h2 m⟩
theorem loop_all {α S σ τ β : Type} {L : Nat → σ → Option (τ ⊕ β)} (a : List α) (st : S → Int → σ) (fin : S → τ) (I : Nat → S → Prop)
    (hL : ∀ (i : Nat) y s, a[i]? = some y → i < a.length → I i s → ∃ s', I (i + 1) s' ∧ ∀ n, L (n + 1) (st s i) = L n (st s' ((i : Int) + 1)))
    (hE : ∀ n s, I a.length s → L (n + 1) (st s a.length) = some (.inl (fin s))) (hlen : a.length ≤ maxLen) (s : S) (h0 : I 0 s) :
    ∃ s', I a.length s' ∧ L fuel (st s 0) = some (.inl (fin s')) := by
  rcases loop_rule a st fin I (fun _ => False) (fun i y s h1 h2 h3 => .inl (hL i y s h1 h2 h3)) hE hlen s h0 with h | ⟨_, h, _⟩
  · exact h
  · exact h.elim
/-- A walk along a list, plainly: what is done of each place. -/
def runL {α S β : Type} (step : Nat → α → S → S ⊕ β) : Nat → List α → S → S ⊕ β
  | _, [], s => .inl s
  | i, y :: l, s => Sum.elim (fun s' => runL step (i + 1) l s') (fun r => .inr r) (step i y s)
theorem runL_loop {α S σ τ β : Type} {L : Nat → σ → Option (τ ⊕ β)} (a : List α) (st : S → Int → σ) (fin : S → τ) (step : Nat → α → S → S ⊕ β)
    (hL : ∀ n s (i : Nat) y, a[i]? = some y → i < a.length → L (n + 1) (st s i) = Sum.elim (fun s' => L n (st s' ((i : Int) + 1))) (fun r => some (.inr r)) (step i y s))
    (hE : ∀ n s, L (n + 1) (st s a.length) = some (.inl (fin s))) (hlen : a.length ≤ maxLen) (s : S) :
    L fuel (st s 0) = some (Sum.elim (fun s => .inl (fin s)) (fun r => .inr r) (runL step 0 a s)) := by
  suffices h : ∀ (l l1 : List α) (n : Nat) (s : S), a = l1 ++ l → l.length < n → L n (st s l1.length) = some (Sum.elim (fun s => .inl (fin s)) (fun r => .inr r) (runL step l1.length l s)) by
    exact h a [] fuel s rfl (by simp only [maxLen_eq, fuel] at *; omega)
  intro l
  induction l with
  | nil =>
    intro l1 n s ha hn
    obtain ⟨m, rfl⟩ : ∃ m, n = m + 1 := ⟨n - 1, by simp at hn; omega⟩
    have : l1.length = a.length := by simp [ha]
    rw [this, hE]; rfl
  | cons y l ih =>
    intro l1 n s ha hn
    obtain ⟨m, rfl⟩ : ∃ m, n = m + 1 := ⟨n - 1, by simp at hn; omega⟩
    have hy : a[l1.length]? = some y := by rw [ha]; simp
    rw [hL m s _ y hy (by rw [ha]; simp)]
    simp only [runL]
    cases step l1.length y s with
    | inr r => rfl
    | inl s' =>
      have := ih (l1 ++ [y]) m s' (by simp [ha]) (by simpa using hn)
      simp only [List.length_append, List.length_cons, List.length_nil, Nat.zero_add, Int.natCast_add, Int.natCast_one] at this
      exact this
theorem runL_all {α β : Type} (p : α → Bool) (r : β) : ∀ (l : List α) (k : Nat), runL (fun _ y (_ : Unit) => bif p y then (.inl () : Unit ⊕ β) else .inr r) k l () = bif l.all p then .inl () else .inr r
  | [], _ => rfl
  | y :: l, k => by
    simp only [runL, List.all_cons]
    cases p y with
    | true => exact runL_all p r l (k + 1)
    | false => rfl
theorem runL_fold {α S β : Type} (f : S → α → S) : ∀ (l : List α) (k : Nat) (s : S), runL (fun _ y s => (.inl (f s y) : S ⊕ β)) k l s = .inl (l.foldl f s)
  | [], _, _ => rfl
  | y :: l, k, s => runL_fold f l (k + 1) (f s y)
theorem fold_or {α : Type} (p : α → Bool) : ∀ (l : List α) (b : Bool), l.foldl (fun h y => h || p y) b = (b || l.any p)
  | [], b => by simp
  | y :: l, b => by rw [List.foldl_cons, fold_or p l, List.any_cons, Bool.or_assoc]
theorem runL_congr {α S β : Type} {f g : Nat → α → S → S ⊕ β} : ∀ (l : List α) (k : Nat) (s : S), (∀ i y s, l[i]? = some y → f (k + i) y s = g (k + i) y s) → runL f k l s = runL g k l s
  | [], _, _, _ => rfl
  | y :: l, k, s, h => by
    simp only [runL]
    rw [show f k y s = g k y s from h 0 y s rfl]
    cases g k y s with
    | inr r => rfl
    | inl s' => exact runL_congr l (k + 1) s' fun i z t hz => by have := h (i + 1) z t (by simpa using hz); rwa [show k + (i + 1) = k + 1 + i by omega] at this
theorem runL_idx {α : Type} (p : α → Bool) : ∀ (l : List α) (k : Nat), runL (fun i y (_ : Unit) => bif p y then (.inr (i : Int) : Unit ⊕ Int) else .inl ()) k l () = match l.findIdx? p with | some i => .inr ((k + i : Nat) : Int) | none => .inl ()
  | [], _ => rfl
  | y :: l, k => by
    simp only [runL, List.findIdx?_cons]
    cases hp : p y with
    | true => simp
    | false =>
      simp only [cond_false, Sum.elim_inl, Bool.false_eq_true, if_false]
      rw [runL_idx p l (k + 1)]
      cases l.findIdx? p with
      | none => rfl
      | some i => simp; omega
theorem take_succ' {α : Type} {a : List α} {i : Nat} {y : α} (h : a[i]? = some y) : a.take (i + 1) = a.take i ++ [y] := by
  rw [List.take_add_one, h]; rfl
theorem getElem?_len {α : Type} (a : List α) : a[a.length]? = none := by simp

theorem sz_flat {e : ET} {o : Bool} {T : List e.den × Int → Option Int} (he : ∀ x, e.small x) (hT : ∀ a b, T (a, b) = bif decide (IntKind.i64.wrap (b - (a.length : Int)) < 0) then some (-1) else some (IntKind.i64.wrap (b - (a.length : Int)))) : SzOk (.sl o e) T := by
  intro a n hx h0 hn
  rw [hT]
  obtain ⟨hlen, hall⟩ := hx
  rw [maxLen_eq] at hlen
  rw [wrap_ok (by omega) (by omega)]
  by_cases hneg : n - (a.length : Int) < 0
  · exact ⟨-1, by simp [hneg], by omega, by omega⟩
  · exact ⟨n - (a.length : Int), by simp [hneg], by omega, fun _ => ⟨by omega, fun x _ => he x⟩⟩
end Go.Proofs.YtainknkfjekngaaDoor.Vm
