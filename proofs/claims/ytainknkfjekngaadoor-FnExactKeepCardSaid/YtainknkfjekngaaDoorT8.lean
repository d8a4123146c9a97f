/- What a row hands a law, typed. -/
import Derived.Test.YtainknkfjekngaaDoorT7
import Derived.Test.YtainknkfjekngaaDoorVm13
namespace Go.Proofs.YtainknkfjekngaaDoor.Vm
open Go
set_option linter.unusedVariables false
set_option linter.unusedSimpArgs false

/-- What every value of a type keeps to. -/
def ET.ok : (e : ET) → e.den → Prop
  | .int k, n => k.min ≤ n ∧ n ≤ k.max
  | .str, s => s.length ≤ maxLen
  | .bool, _ => True
  | .sl _ e, l => l.length ≤ maxLen ∧ ∀ x ∈ l, e.ok x
  | .pair a b, x => a.ok x.1 ∧ b.ok x.2
  | .unit, _ => True
  | .rp e, x | .fn _ e, x => e.ok x
  | .ho _ _, _ | .hl, _ => True
def Sh.ok : (s : Sh) → s.den → Prop
  | .cell e, x | .agg e, x | .box e, x | .rp e, x => e.ok x
  | .bld _ _, _ => True
def okL : (l : List Sh) → Den l → Prop
  | [], _ => True
  | [s], x => s.ok x
  | s :: t :: l, x => s.ok x.1 ∧ okL (t :: l) x.2

mutual
def fits : Ty → ET → Bool
  | .int k, .int k' => decide (k = k')
  | .str, .str => true
  | .bool, .bool => true
  | .sl n t, .sl o e => !o && Nat.beq n e.wid && fits t e
  | .st l, e => fitsL l e
  | _, _ => false
def fitsL : List Ty → ET → Bool
  | [], .unit => true
  | [t], e => fits t e
  | t :: u :: l, .pair a b => fits t a && fitsL (u :: l) b
  | _, _ => false
end
theorem list_of {α : Type} {e : ET} {Q : α → e.den → Prop} : ∀ {l : List α}, (∀ x ∈ l, ∃ y, Q x y ∧ e.ok y) → ∃ ys : List e.den, ys.length = l.length ∧ (∀ y ∈ ys, e.ok y) ∧ ∀ (i : Nat) x y, l[i]? = some x → ys[i]? = some y → Q x y
  | [], _ => ⟨[], rfl, by simp, by simp⟩
  | x :: l, h => by
    obtain ⟨y, h1, h2⟩ := h x (by simp)
    obtain ⟨ys, h3, h4, h5⟩ := list_of (l := l) (fun x hx => h x (by simp [hx]))
    refine ⟨y :: ys, by simp [h3], fun z hz => ?_, fun i a b ha hb => ?_⟩
    · rcases List.mem_cons.1 hz with rfl | hz
      · exact h2
      · exact h4 z hz
    · cases i with
      | zero => simp at ha hb; subst ha hb; exact h1
      | succ i => exact h5 i a b (by simpa using ha) (by simpa using hb)
mutual
theorem fits_v : ∀ (t : Ty) (e : ET) (v : List V), fits t e = true → t.Has v → ∃ x : e.den, v = e.enc x ∧ e.ok x
  | .int k, e, v, hf, hv => by
    cases e <;> simp only [fits, Bool.false_eq_true, decide_eq_true_eq] at hf
    subst hf
    obtain ⟨n, rfl, hw⟩ := hv
    simp only [Lit.wf, Bool.and_eq_true, decide_eq_true_eq] at hw
    exact ⟨n, rfl, hw⟩
  | .str, e, v, hf, hv => by
    cases e <;> simp only [fits, Bool.false_eq_true] at hf
    obtain ⟨n, rfl, hw⟩ := hv
    exact ⟨n, rfl, hw⟩
  | .bool, e, v, hf, hv => by
    cases e <;> simp only [fits, Bool.false_eq_true] at hf
    obtain ⟨n, rfl⟩ := hv
    exact ⟨n, rfl, trivial⟩
  | .sl n t, e, v, hf, hv => by
    cases e with
    | sl o e =>
      simp only [fits, Bool.and_eq_true, Bool.not_eq_true'] at hf
      obtain ⟨⟨rfl, hn⟩, hf⟩ := hf
      obtain ⟨es, rfl, hl, he⟩ := hv
      obtain ⟨ys, h1, h2, h3⟩ := list_of (Q := fun x y => x = e.enc y) (fun x hx => fits_v t e x hf (he x hx))
      refine ⟨ys, ?_, by rw [h1]; exact hl, h2⟩
      simp only [ET.enc, List.cons.injEq, V.sl.injEq, true_and, and_true]
      refine ⟨Nat.eq_of_beq_eq_true hn, List.ext_getElem? fun i => ?_⟩
      rw [List.getElem?_map]
      cases hi : es[i]? with
      | none =>
        have : ys[i]? = none := by rw [List.getElem?_eq_none_iff, h1]; exact List.getElem?_eq_none_iff.1 hi
        rw [this]; rfl
      | some x =>
        have hlt := (List.getElem?_eq_some_iff.1 hi).1
        have hy : ys[i]? = some (ys[i]'(by omega)) := List.getElem?_eq_getElem (by omega)
        rw [hy, Option.map_some, h3 i _ _ hi hy]
    | _ => simp only [fits, Bool.false_eq_true] at hf
  | .st l, e, v, hf, hv => by
    have hf' : fitsL l e = true := by cases e <;> exact hf
    exact fitsL_v l e v hf' hv
theorem fitsL_v : ∀ (l : List Ty) (e : ET) (v : List V), fitsL l e = true → HasL l v → ∃ x : e.den, v = e.enc x ∧ e.ok x
  | [], e, v, hf, hv => by
    cases e <;> simp only [fitsL, Bool.false_eq_true] at hf
    exact ⟨(), hv, trivial⟩
  | [t], e, v, hf, hv => by
    obtain ⟨a, b, rfl, h1, rfl⟩ := hv
    obtain ⟨x, rfl, h2⟩ := fits_v t e a (by cases e <;> exact hf) h1
    exact ⟨x, by simp, h2⟩
  | t :: u :: l, e, v, hf, hv => by
    cases e with
    | pair a b =>
      simp only [fitsL, Bool.and_eq_true] at hf
      obtain ⟨p, q, rfl, h1, h2⟩ := hv
      obtain ⟨x, rfl, h3⟩ := fits_v t a p hf.1 h1
      obtain ⟨y, rfl, h4⟩ := fitsL_v (u :: l) b q hf.2 h2
      exact ⟨(x, y), rfl, h3, h4⟩
    | _ => simp only [fitsL, Bool.false_eq_true] at hf
end
def fitsA : List Ty → List Sh → Bool
  | [], [] => true
  | .st l :: ts, .agg e :: ss => fitsL l e && fitsA ts ss
  | t :: ts, .cell e :: ss => (match t with | .st _ => false | _ => true) && fits t e && fitsA ts ss
  | _, _ => false
theorem fitsA_one {t : Ty} {s : Sh} {ts : List Ty} {ss : List Sh} {v : V} (hf : fitsA (t :: ts) (s :: ss) = true) (hv : t.Arg v) : fitsA ts ss = true ∧ ∃ x : s.den, v = (s.sv x).v ∧ s.ok x := by
  have cell : ∀ e, s = .cell e → (∀ l, t ≠ .st l) → fits t e = true → ∃ x : s.den, v = (s.sv x).v ∧ s.ok x := by
    rintro e rfl hns hf
    have hv' : t.Has [v] := by cases t <;> first | exact hv | exact absurd rfl (hns _)
    obtain ⟨x, h1, h2⟩ := fits_v t e [v] hf hv'
    refine ⟨x, ?_, h2⟩
    have h3 := unp_v e x
    rw [← h1] at h3
    simp only [Sh.sv]
    match hu : unp e x, h3 with
    | [c], h3 => simp [SV.v.go] at h3; simp [hd1, h3]
    | [], h3 => simp [SV.v.go] at h3
    | _ :: _ :: _, h3 => simp [SV.v.go] at h3
  cases t with
  | st l =>
    cases s <;> simp only [fitsA, Bool.and_eq_true, Bool.false_eq_true, false_and] at hf
    obtain ⟨vs, rfl, hv⟩ := hv
    obtain ⟨x, rfl, h2⟩ := fitsL_v l _ vs hf.1 hv
    exact ⟨hf.2, x, by simp only [Sh.sv, SV.v]; rw [show SV.v.go (unp _ x) = vl (unp _ x) from rfl, unp_v], h2⟩
  | _ =>
    cases s <;> simp only [fitsA, Bool.and_eq_true, Bool.false_eq_true, true_and] at hf
    exact ⟨hf.2, cell _ rfl (by simp) hf.1⟩
theorem fitsA_v : ∀ (ts : List Ty) (ss : List Sh) (vs : List V), fitsA ts ss = true → ArgsL ts vs → ∃ a : Den ss, vs = vl (svL ss a) ∧ okL ss a
  | [], ss, vs, hf, hv => by
    cases ss with
    | nil => exact ⟨(), hv, trivial⟩
    | cons s ss => cases s <;> simp [fitsA] at hf
  | t :: ts, [], vs, hf, hv => by cases t <;> simp [fitsA] at hf
  | t :: ts, [s], vs, hf, hv => by
    obtain ⟨v, r, rfl, h1, h2⟩ := hv
    obtain ⟨hf', x, rfl, hx⟩ := fitsA_one hf h1
    obtain ⟨y, rfl, _⟩ := fitsA_v ts [] r hf' h2
    exact ⟨x, rfl, hx⟩
  | t :: ts, s :: u :: ss, vs, hf, hv => by
    obtain ⟨v, r, rfl, h1, h2⟩ := hv
    obtain ⟨hf', x, rfl, hx⟩ := fitsA_one hf h1
    obtain ⟨y, rfl, hy⟩ := fitsA_v ts (u :: ss) r hf' h2
    exact ⟨(x, y), rfl, hx, hy⟩

/-- A law that answers true of all that is right. -/
theorem law_T {P : Program} {f : Nat} {args : List Sh} {outs : List Nat} {os : List Sh} {T : Den args → Option (Den ([.cell .bool] ++ os))} {tys : List Ty} (h : FnOk P ⟨f, args, outs, [.cell .bool], os, T⟩) (hf : fitsA tys args = true)
    (hT : ∀ a, okL args a → ∃ r, T a = some r ∧ ((vl (svL ([.cell .bool] ++ os) r)).take 1) = [vb true]) : ∀ vs, ArgsL tys vs → Ok P f vs (fun r _ => r = vb true) := by
  intro vs hv
  obtain ⟨a, rfl, ha⟩ := fitsA_v tys args vs hf hv
  obtain ⟨r, h1, h2⟩ := hT a ha
  refine (h.2 a r h1).mono fun v o hvo => ?_
  rw [hvo.1]
  simp only [List.length_cons, List.length_nil, Nat.zero_add, h2]
  rfl
theorem law_T0 {P : Program} {f : Nat} {args : List Sh} {T : Den args → Option Bool} {tys : List Ty} (h : FnOk P ⟨f, args, [], [.cell .bool], [], T⟩) (hf : fitsA tys args = true)
    (hT : ∀ a, okL args a → T a = some true) : ∀ vs, ArgsL tys vs → Ok P f vs (fun r _ => r = vb true) :=
  law_T h hf fun a ha => ⟨true, hT a ha, rfl⟩
/-- The same, of the types that a function's text names. -/
def tysFit (P : Program) (ts : List TypeId) (args : List Sh) : Bool := match tysOf P ts with
  | some l => fitsA l args
  | none => false
theorem law_all {P : Program} {f : Nat} {args : List Sh} {T : Den args → Option Bool} {ts : List TypeId} (h : FnOk P ⟨f, args, [], [.cell .bool], [], T⟩) (hf : tysFit P ts args = true)
    (hT : ∀ a, okL args a → T a = some true) : ∃ tys, tysOf P ts = some tys ∧ ∀ vs, ArgsL tys vs → Ok P f vs (fun r _ => r = vb true) := by
  unfold tysFit at hf
  split at hf <;> try (cases hf; done)
  rename_i l hl
  exact ⟨l, hl, law_T0 h hf hT⟩
end Go.Proofs.YtainknkfjekngaaDoor.Vm
