/- What a value weighs: how far a mark's number goes over it, and what its measure says of that. -/
import Derived.Test.YtainknkfjekngaaDoorT9
namespace Go.Proofs.YtainknkfjekngaaDoor.Vm
open Go
set_option linter.unusedVariables false
set_option linter.unusedSimpArgs false

/-- A function of a pair, by its parts. -/
def un {α β : Type} {γ : Type} (f : α → β → γ) (x : α × β) : γ := f x.1 x.2
theorem un_mk {α β : Type} {γ : Type} (f : α → β → γ) (a : α) (b : β) : un f (a, b) = f a b := rfl

def sumI {α : Type} (f : α → Int) : List α → Int
  | [] => 0
  | x :: l => f x + sumI f l
theorem sumI_nn {α : Type} {f : α → Int} (h : ∀ x, 0 ≤ f x) : ∀ l : List α, 0 ≤ sumI f l
  | [] => Int.le_refl 0
  | x :: l => by have := h x; have := sumI_nn h l; simp only [sumI]; omega
theorem sumI_app {α : Type} (f : α → Int) : ∀ a b : List α, sumI f (a ++ b) = sumI f a + sumI f b
  | [], b => by simp [sumI]
  | x :: a, b => by simp only [List.cons_append, sumI, sumI_app f a b]; omega
theorem sumI_mem {α : Type} {f : α → Int} (h : ∀ x, 0 ≤ f x) : ∀ {l : List α} {x : α}, x ∈ l → f x ≤ sumI f l
  | y :: l, x, hx => by
    have h1 := h y
    have h2 := sumI_nn h l
    rcases List.mem_cons.1 hx with rfl | hx
    · simp only [sumI]; omega
    · have := sumI_mem h hx; simp only [sumI]; omega
theorem sumI_le {α : Type} {f : α → Int} {C : Int} : ∀ {l : List α}, (∀ x ∈ l, f x ≤ C) → sumI f l ≤ (l.length : Int) * C
  | [], _ => by simp [sumI]
  | x :: l, h => by
    have h1 := h x (by simp)
    have h2 := sumI_le (l := l) fun y hy => h y (by simp [hy])
    simp only [sumI, List.length_cons, Int.natCast_add, Int.natCast_one, Int.add_mul, Int.one_mul]; omega

/-- How many numbers, texts and truths a value bears. -/
def ET.wt : (e : ET) → e.den → Int
  | .int _, _ | .str, _ | .bool, _ => 1
  | .sl _ e, l => sumI e.wt l
  | .pair a b, x => a.wt x.1 + b.wt x.2
  | .unit, _ => 0
  | .rp e, x | .fn _ e, x => e.wt x
  | .ho _ _, _ | .hl, _ => 0
theorem wt_nn : ∀ (e : ET) (x : e.den), 0 ≤ e.wt x
  | .int _, _ | .str, _ | .bool, _ => by simp [ET.wt]
  | .unit, _ => by simp [ET.wt]
  | .sl _ e, l => sumI_nn (wt_nn e) l
  | .pair a b, x => by have := wt_nn a x.1; have := wt_nn b x.2; simp only [ET.wt]; omega
  | .rp e, x | .fn _ e, x => wt_nn e x
  | .ho _ _, _ | .hl, _ => by simp [ET.wt]
/-- How long its lists and texts are, together. -/
def ET.ms : (e : ET) → e.den → Int
  | .int _, _ | .bool, _ | .unit, _ => 0
  | .str, s => (List.length (α := UInt8) s : Int)
  | .sl _ e, l => (List.length (α := e.den) l : Int) + sumI e.ms l
  | .pair a b, x => a.ms x.1 + b.ms x.2
  | .rp e, x | .fn _ e, x => e.ms x
  | .ho _ _, _ | .hl, _ => 0
theorem ms_pair {a b : ET} (x : (ET.pair a b).den) : (ET.pair a b).ms x = a.ms x.1 + b.ms x.2 := rfl
theorem ms_int {k : IntKind} (n : Int) : (ET.int k).ms n = 0 := rfl
theorem ms_bool (n : Bool) : ET.bool.ms n = 0 := rfl
theorem ms_str (n : List UInt8) : ET.str.ms n = (n.length : Int) := rfl
theorem wt_pair {a b : ET} (x : (ET.pair a b).den) : (ET.pair a b).wt x = a.wt x.1 + b.wt x.2 := rfl
theorem wt_int {k : IntKind} (n : Int) : (ET.int k).wt n = 1 := rfl
theorem wt_bool (n : Bool) : ET.bool.wt n = 1 := rfl
theorem wt_str (n : List UInt8) : ET.str.wt n = 1 := rfl
theorem ms_nn : ∀ (e : ET) (x : e.den), 0 ≤ e.ms x
  | .int _, _ | .bool, _ | .unit, _ => by simp [ET.ms]
  | .str, s => by simp only [ET.ms]; omega
  | .sl _ e, l => by have := sumI_nn (ms_nn e) l; simp only [ET.ms]; omega
  | .pair a b, x => by have := ms_nn a x.1; have := ms_nn b x.2; simp only [ET.ms]; omega
  | .rp e, x | .fn _ e, x => ms_nn e x
  | .ho _ _, _ | .hl, _ => by simp [ET.ms]
theorem ms_small : ∀ (e : ET) (x : e.den), e.ms x ≤ 1048576 → e.small x
  | .int _, _, _ | .bool, _, _ | .unit, _, _ => trivial
  | .str, s, h => by
    simp only [ET.ms] at h
    exact (show List.length (α := UInt8) s ≤ 1048576 by omega)
  | .sl _ e, l, h => by
    have := sumI_nn (ms_nn e) l
    simp only [ET.ms] at h
    exact ⟨(show List.length (α := e.den) l ≤ 1048576 by omega), fun x hx => ms_small e x (by have := sumI_mem (ms_nn e) hx; omega)⟩
  | .pair a b, x, h => by
    have := ms_nn a x.1; have := ms_nn b x.2; simp only [ET.ms] at h
    exact ⟨ms_small a x.1 (by omega), ms_small b x.2 (by omega)⟩
  | .rp e, x, h | .fn _ e, x, h => ms_small e x h
  | .ho _ _, _, _ | .hl, _, _ => trivial
/-- Its own numbers; the most that an element of a list in it has. -/
def ET.fw : ET → Int
  | .int _ | .str | .bool => 1
  | .sl _ _ | .unit => 0
  | .pair a b => a.fw + b.fw
  | .rp e | .fn _ e => e.fw
  | .ho _ _ | .hl => 0
def ET.mw : ET → Int
  | .int _ | .str | .bool | .unit => 0
  | .sl _ e => max e.fw e.mw
  | .pair a b => max a.mw b.mw
  | .rp e | .fn _ e => e.mw
  | .ho _ _ | .hl => 0
theorem fw_nn : ∀ e : ET, 0 ≤ e.fw
  | .int _ | .str | .bool | .unit | .sl _ _ => by simp [ET.fw]
  | .pair a b => by have := fw_nn a; have := fw_nn b; simp only [ET.fw]; omega
  | .rp e | .fn _ e => fw_nn e
  | .ho _ _ | .hl => by simp [ET.fw]
theorem mw_nn : ∀ e : ET, 0 ≤ e.mw
  | .int _ | .str | .bool | .unit => by simp [ET.mw]
  | .sl _ e => by have := fw_nn e; simp only [ET.mw]; omega
  | .pair a b => by have := mw_nn a; simp only [ET.mw]; omega
  | .rp e | .fn _ e => mw_nn e
  | .ho _ _ | .hl => by simp [ET.mw]
theorem wt_le : ∀ (e : ET) (x : e.den) (M : Int), e.mw ≤ M → e.wt x ≤ e.fw + M * e.ms x
  | .int _, _, M, h | .bool, _, M, h => by simp [ET.wt, ET.fw, ET.ms]
  | .unit, _, M, h => by simp [ET.wt, ET.fw, ET.ms]
  | .str, s, M, h => by
    have : 0 ≤ M := h
    have h2 : 0 ≤ M * (List.length (α := UInt8) s : Int) := Int.mul_nonneg this (by omega)
    simp only [ET.wt, ET.fw, ET.ms]; omega
  | .sl _ e, l, M, h => by
    have hM : 0 ≤ M := Int.le_trans (mw_nn (.sl true e)) h
    simp only [ET.mw] at h
    simp only [ET.wt, ET.fw, ET.ms]
    suffices hh : sumI e.wt l ≤ M * ((List.length (α := e.den) l : Int) + sumI e.ms l) by omega
    have ih := fun x => wt_le e x M (by omega)
    induction l with
    | nil => simp [sumI]
    | cons x l ihl =>
      have h1 := ih x
      have h2 : M * (((l.length + 1 : Nat) : Int) + (e.ms x + sumI e.ms l)) = M * ((List.length (α := e.den) l : Int) + sumI e.ms l) + M + M * e.ms x := by
        rw [show ((l.length + 1 : Nat) : Int) = (l.length : Int) + 1 by omega]
        simp only [Int.mul_add, Int.mul_one]; omega
      simp only [sumI, List.length_cons]
      have h3 := ihl
      have : e.fw ≤ M := by omega
      rw [h2]; omega
  | .pair a b, x, M, h => by
    simp only [ET.mw] at h
    have h1 := wt_le a x.1 M (by omega)
    have h2 := wt_le b x.2 M (by omega)
    simp only [ET.wt, ET.fw, ET.ms, Int.mul_add]; omega
  | .rp e, x, M, h | .fn _ e, x, M, h => wt_le e x M h
  | .ho _ _, _, M, h | .hl, _, M, h => by simp [ET.wt, ET.fw, ET.ms]
theorem wt_top {e : ET} {x : e.den} (h : e.ms x ≤ 1048576) : e.wt x ≤ e.fw + e.mw * 1048576 := by
  have h1 := wt_le e x e.mw (Int.le_refl _)
  have h2 : e.mw * e.ms x ≤ e.mw * 1048576 := Int.mul_le_mul_of_nonneg_left h (mw_nn e)
  omega

/-- A measure that says how much is left, or -1 when there is too much. -/
def SzOkM (e : ET) (T : e.den × Int → Option Int) : Prop :=
  ∀ x n, e.ok x → 0 ≤ n → n ≤ 1048576 → ∃ r, T (x, n) = some r ∧ r ≤ n ∧ (0 ≤ r → e.ms x ≤ n - r)
theorem SzOkM.sz {e : ET} {T : e.den × Int → Option Int} (h : SzOkM e T) : SzOk e T := fun x n hx h0 hn => by
  obtain ⟨r, h1, h2, h3⟩ := h x n hx h0 hn
  exact ⟨r, h1, h2, fun hr => ms_small e x (by have := h3 hr; omega)⟩
theorem sumI_take {α : Type} {f : α → Int} {a : List α} {i : Nat} {y : α} (h : a[i]? = some y) : sumI f (a.take (i + 1)) = sumI f (a.take i) + f y := by
  rw [take_succ' h, sumI_app]; simp [sumI]
theorem szm_sl {e : ET} {o : Bool} {T : List e.den × Int → Option Int} {L : Nat → List e.den × Int × Int → Option (Int ⊕ Int)} (body : e.den → Int → Option Int)
    (hT : ∀ a b, T (a, b) = bif decide (IntKind.i64.wrap (b - (a.length : Int)) < 0) then some (-1) else (L fuel (a, IntKind.i64.wrap (b - (a.length : Int)), 0)).bind (Sum.elim (fun y => some y) fun v => some v))
    (hL : ∀ n a b c, L (n + 1) (a, b, c) = bif decide (c < (a.length : Int)) then if 0 ≤ c then a[c.toNat]?.bind fun y => (body y b).bind fun r => bif decide (r < 0) then some (.inr (-1)) else L n (a, r, IntKind.i64.wrap (c + 1)) else none else some (.inl b))
    (hb : SzOkM e fun p => body p.1 p.2) : SzOkM (.sl o e) T := by
  intro a n hx h0 hn
  rw [hT]
  obtain ⟨hlen, hall⟩ := hx
  rw [maxLen_eq] at hlen
  rw [wrap_ok (by omega) (by omega)]
  by_cases hneg : n - (a.length : Int) < 0
  · exact ⟨-1, by simp [hneg], by omega, by omega⟩
  · simp only [hneg, decide_false, cond_false]
    rw [each_loop (L := L) a (fun s c => (a, s, c)) (fun s => s) (fun i y s => (body y s).bind fun r => bif decide (r < 0) then some (.inr (-1)) else some (.inl r)) (fun m s i y hy => by
        have hi := (List.getElem?_eq_some_iff.1 hy).1
        rw [hL]
        simp only [show ((i : Int) < (a.length : Int)) by omega, decide_true, cond_true, Int.natCast_nonneg, if_true, Int.toNat_natCast, hy, Option.bind_some]
        rw [wrap_ok (by omega) (by omega)]
        cases body y s with
        | none => rfl
        | some r =>
          simp only [Option.bind_some]
          by_cases hr : r < 0 <;> simp [hr]) (fun m s => by rw [hL]; simp) (by rw [maxLen_eq]; exact hlen)]
    rcases each_rule (step := fun (i : Nat) (y : e.den) s => (body y s).bind fun r => bif decide (r < 0) then some (.inr (-1)) else some (.inl r)) (fun k s => 0 ≤ s ∧ sumI e.ms (a.take k) ≤ n - (a.length : Int) - s) (fun r : Int => r = -1) a 0 (n - (a.length : Int)) ⟨by omega, by simp [sumI]⟩ (fun i y s hy hI => by
        obtain ⟨h1, h2⟩ := hI
        rw [Nat.zero_add] at *
        have hnn := sumI_nn (ms_nn e) (a.take i)
        obtain ⟨r, hr, h4, h6⟩ := hb y s (hall y (List.mem_of_getElem? hy)) h1 (by omega)
        simp only at hr
        rw [hr]
        by_cases hr0 : r < 0
        · exact .inr ⟨-1, by simp [hr0], rfl⟩
        · refine .inl ⟨r, by simp [hr0], by omega, ?_⟩
          rw [sumI_take hy]
          have := h6 (by omega)
          omega) with ⟨s, h1, h2, h3⟩ | ⟨r, h1, rfl⟩
    · rw [h1]
      rw [Nat.zero_add, List.take_length] at h3
      have hnn := sumI_nn (ms_nn e) a
      refine ⟨s, rfl, by omega, fun _ => ?_⟩
      simp only [ET.ms]; omega
    · rw [h1]
      exact ⟨-1, rfl, by omega, by omega⟩
theorem szm_flat {e : ET} {o : Bool} {T : List e.den × Int → Option Int} (he : ∀ x, e.ms x = 0) (hT : ∀ a b, T (a, b) = bif decide (IntKind.i64.wrap (b - (a.length : Int)) < 0) then some (-1) else some (IntKind.i64.wrap (b - (a.length : Int)))) : SzOkM (.sl o e) T := by
  intro a n hx h0 hn
  rw [hT]
  obtain ⟨hlen, hall⟩ := hx
  rw [maxLen_eq] at hlen
  rw [wrap_ok (by omega) (by omega)]
  by_cases hneg : n - (a.length : Int) < 0
  · exact ⟨-1, by simp [hneg], by omega, by omega⟩
  · refine ⟨n - (a.length : Int), by simp [hneg], by omega, fun _ => ?_⟩
    have : ∀ l : List e.den, sumI e.ms l = 0 := fun l => by
      induction l with
      | nil => rfl
      | cons x l ih => simp [sumI, ih, he]
    simp only [ET.ms, this]; omega
theorem szm_str : SzOkM .str fun p => some (IntKind.i64.wrap (p.2 - (p.1.length : Int))) := by
  intro x n hx h0 hn
  have : x.length ≤ 9223372036854775807 := hx
  simp only
  rw [wrap_ok (by omega) (by omega)]
  exact ⟨_, rfl, by omega, fun h => by simp only [ET.ms]; omega⟩
/-- What is left of N, when what was measured so far and what is to come is at most what it tells. -/
def SzM (N : Int) (S : Int → Prop) (o : Option Int) : Prop := ∃ r, o = some r ∧ r ≤ N ∧ (0 ≤ r → S r)
theorem SzM.str {N n : Int} {S : Int → Prop} {s : List UInt8} {k : Option Int} (hs : ET.str.ok s) (h0 : 0 ≤ n) (hn : n ≤ 1048576) (hN : n ≤ N) (hk : 0 ≤ n - (s.length : Int) → IntKind.i64.wrap (n - (s.length : Int)) = n - (s.length : Int) → SzM N S k) :
    SzM N S (bif decide (IntKind.i64.wrap (n - (s.length : Int)) < 0) then some (-1) else k) := by
  have : s.length ≤ 9223372036854775807 := hs
  have hw : IntKind.i64.wrap (n - (s.length : Int)) = n - (s.length : Int) := wrap_ok (by omega) (by omega)
  rw [hw]
  by_cases h : n - (s.length : Int) < 0
  · exact ⟨-1, by simp [h], by omega, by omega⟩
  · simp only [h, decide_false, cond_false]
    exact hk (by omega) hw
theorem SzM.call {N n : Int} {S : Int → Prop} {e : ET} {T : e.den × Int → Option Int} {x : e.den} {k : Int → Option Int} (hT : SzOkM e T) (hx : e.ok x) (h0 : 0 ≤ n) (hn : n ≤ 1048576) (hN : n ≤ N)
    (hk : ∀ r, 0 ≤ r → r ≤ n → e.ms x ≤ n - r → SzM N S (k r)) : SzM N S ((T (x, n)).bind fun r => bif decide (r < 0) then some (-1) else k r) := by
  obtain ⟨r, h1, h2, h3⟩ := hT x n hx h0 hn
  rw [h1]
  simp only [Option.bind_some]
  by_cases h : r < 0
  · exact ⟨-1, by simp [h], by omega, by omega⟩
  · simp only [h, decide_false, cond_false]
    exact hk r (by omega) h2 (h3 (by omega))
theorem SzM.fin {N r : Int} {S : Int → Prop} (h : r ≤ N) (hS : S r) : SzM N S (some r) := ⟨r, rfl, h, fun _ => hS⟩

/-- A mark goes through, no further than what it goes over weighs. -/
def MkW (e : ET) (T : e.den × Int → Option (Int × e.den)) (Q : e.den → Int → Int → Prop) : Prop :=
  ∀ y k, e.small y → 0 ≤ k → k + e.wt y ≤ 4611686018427387904 → ∃ k' y', T (y, k) = some (k', y') ∧ Q y' k k' ∧ k' = k + e.wt y
theorem mkw_sl {e : ET} {o : Bool} {T : List e.den × Int → Option (Int × List e.den)} {L : Nat → List e.den × Int × Int → Option ((List e.den × Int) ⊕ (Int × List e.den))} {Q : e.den → Int → Int → Prop}
    (hT : ∀ a b, T (a, b) = (L fuel (a, b, 0)).bind (Sum.elim (fun y => some (y.2, y.1)) fun v => some v))
    (hL : ∀ a b (i : Nat) y, a[i]? = some y → e.small y → 0 ≤ b → b + e.wt y ≤ 4611686018427387904 → i ≤ 1048576 → ∃ b' y', (∀ n, L (n + 1) (a, b, (i : Int)) = L n (a.set i y', b', (i : Int) + 1)) ∧ Q y' b b' ∧ b' = b + e.wt y)
    (hE : ∀ n a b, L (n + 1) (a, b, (a.length : Int)) = some (.inl (a, b))) : MkW (.sl o e) T fun l k k' => l.length ≤ 1048576 ∧ chainQ Q l k k' := by
  intro a k hs h0 hW
  obtain ⟨hlen, hall⟩ := hs
  simp only [ET.wt] at hW ⊢
  suffices h : ∀ (l l1 : List e.den) (n : Nat) (b : Int), l.length < n → l1.length + l.length ≤ 1048576 → (∀ x ∈ l, e.small x) → 0 ≤ b → b + sumI e.wt l ≤ 4611686018427387904 →
      ∃ b' l', L n (l1 ++ l, b, (l1.length : Int)) = some (.inl (l1 ++ l', b')) ∧ chainQ Q l' b b' ∧ l'.length = l.length ∧ b' = b + sumI e.wt l by
    obtain ⟨b', l', h1, h2, h3, h4⟩ := h a [] fuel k (by simp only [fuel]; omega) (by simpa using hlen) hall h0 hW
    refine ⟨b', l', ?_, ⟨by omega, h2⟩, h4⟩
    rw [hT]
    simp only [List.nil_append, List.length_nil, Int.natCast_zero] at h1
    rw [h1]; rfl
  intro l
  induction l with
  | nil =>
    intro l1 n b hn _ _ _ _
    obtain ⟨m, rfl⟩ : ∃ m, n = m + 1 := ⟨n - 1, by simp at hn; omega⟩
    refine ⟨b, [], ?_, rfl, rfl, by simp [sumI]⟩
    simp only [List.append_nil]
    exact hE m l1 b
  | cons y l ih =>
    intro l1 n b hn hl hall h0 hB
    obtain ⟨m, rfl⟩ : ∃ m, n = m + 1 := ⟨n - 1, by simp at hn; omega⟩
    simp only [List.length_cons, sumI] at hB hl hn ⊢
    have hm0 : 0 ≤ sumI e.wt l := sumI_nn (wt_nn e) l
    have hy0 : 0 ≤ e.wt y := wt_nn e y
    obtain ⟨b1, y', h1, h2, h3⟩ := hL (l1 ++ y :: l) b l1.length y (by simp) (hall y (by simp)) h0 (by omega) (by omega)
    obtain ⟨b', l', g1, g2, g3, g4⟩ := ih (l1 ++ [y']) m b1 (by omega) (by simp; omega) (fun x hx => hall x (by simp [hx])) (by omega) (by omega)
    refine ⟨b', y' :: l', ?_, ⟨b1, h2, g2⟩, by simp [g3], by omega⟩
    rw [h1 m]
    simp only [List.length_append, List.length_cons, List.length_nil, Nat.zero_add, Int.natCast_add, Int.natCast_one, List.append_assoc, List.singleton_append] at g1
    rw [← g1]
    congr 2
    simp
theorem MkW.mono {e : ET} {T : e.den × Int → Option (Int × e.den)} {Q Q' : e.den → Int → Int → Prop} (h : MkW e T Q) (hq : ∀ y k k', Q y k k' → Q' y k k') : MkW e T Q' := by
  intro y k h1 h2 h3
  obtain ⟨k', y', g1, g2, g3⟩ := h y k h1 h2 h3
  exact ⟨k', y', g1, hq _ _ _ g2, g3⟩
end Go.Proofs.YtainknkfjekngaaDoor.Vm
