/- What the reference's function answers, and the program's: the same. -/
import Derived.Test.YtceeeagdjphbnaaDoorXRSPb
namespace Go.Proofs.YtceeeagdjphbnaaDoor
open Go Vm
set_option linter.unusedVariables false
set_option linter.unusedSimpArgs false
namespace Xs
abbrev DeedU := Int × Int × Int × Int × List UInt8
def dOk (e : DeedU) : Bool := decide (1 ≤ e.1 ∧ e.1 ≤ 9) && (decide (1 ≤ e.2.1 ∧ e.2.1 ≤ 5) && (!decide (e.2.2.1 < 0) && (bif e.1 == 1 then (decide (1 ≤ e.2.2.2.1 ∧ e.2.2.2.1 ≤ 2) && decide (((e.2.2.2.2.length : Nat) : Int) ≤ 60)) else (e.2.2.2.1 == 0 && e.2.2.2.2 == []))))
theorem lev_in (d : Int) : T_impl_isLevel d = some (decide (1 ≤ d ∧ d ≤ 2)) := by
  rw [e_T_impl_isLevel]
  by_cases h : d = 1
  · subst h; rfl
  · rw [beq_eq_false_iff_ne.2 h, cond_false]
    congr 1
    rw [Bool.eq_iff_iff, beq_iff_eq, decide_eq_true_iff]; omega
theorem x_DeedOk (e : DeedU) : T_spec_DeedOk e = some (dOk e) ∧ T_impl_DeedOk e = some (dOk e) := by
  obtain ⟨a, b, c, d, t⟩ := e
  rw [e_T_spec_DeedOk, e_T_impl_DeedOk]
  simp only [e_T_impl_isDaemon, e_T_impl_wordsOk, lev_in, (x_inRange _ _ _).1, (x_inRange _ _ _).2, Option.bind_some, dOk]
  generalize decide (1 ≤ a ∧ a ≤ 9) = p1
  generalize decide (1 ≤ b ∧ b ≤ 5) = p2
  generalize decide (c < 0) = p3
  cases p1 with
  | false => exact ⟨rfl, rfl⟩
  | true =>
    cases p2 with
    | false => exact ⟨rfl, rfl⟩
    | true =>
      cases p3 with
      | true => exact ⟨rfl, rfl⟩
      | false =>
        simp only [Bool.not_true, Bool.not_false, cond_false, Option.bind_some, Sum.elim_inl, Bool.true_and]
        generalize decide (1 ≤ d ∧ d ≤ 2) = p4
        generalize (a == 1) = p5
        generalize (d == 0) = p6
        cases p5 <;> cases p4 <;> cases p6 <;> exact ⟨rfl, rfl⟩
def wSay : List UInt8 := [115, 97, 121]
def wSafe : List UInt8 := [115, 97, 102, 101]
def wFirst : List UInt8 := [102, 105, 114, 115, 116]
def wCarry : List UInt8 := [99, 97, 114, 114, 121]
def wLose : List UInt8 := [108, 111, 115, 101]
def wTwice : List UInt8 := [116, 119, 105, 99, 101]
def wAgain : List UInt8 := [97, 103, 97, 105, 110]
def wMove : List UInt8 := [109, 111, 118, 101]
def wCrash : List UInt8 := [99, 114, 97, 115, 104]
def wWake : List UInt8 := [119, 97, 107, 101]
def words8 : List (List UInt8) := [wFirst, wCarry, wLose, wTwice, wAgain, wMove, wCrash, wWake]
theorem e_deedOf (a : List UInt8) : T_impl_deedOf a = (bif a == wSay then some (Sum.inl (a, true)) else some (Sum.inl (a, a == wSafe))).bind (Sum.elim (fun (x : List UInt8 × Bool) => bif x.snd then some (1, 3, true) else bif x.fst == wFirst then some (2, 2, true) else bif x.fst == wCarry then some (3, 2, true) else bif x.fst == wLose then some (4, 2, true) else bif x.fst == wTwice then some (5, 2, true) else bif x.fst == wAgain then some (6, 2, true) else bif x.fst == wMove then some (7, 2, true) else bif x.fst == wCrash then some (8, 2, true) else bif x.fst == wWake then some (9, 2, true) else some (0, 0, false)) fun (val : Int × Int × Bool) => some val) := e_T_impl_deedOf a
theorem v_deedOf (w : List UInt8) : ∃ k sz ok, T_impl_deedOf w = some (k, sz, ok) ∧ (ok = true → (sz = 2 ∧ w ∈ words8) ∨ (sz = 3 ∧ (w = wSay ∨ w = wSafe))) := by
  rw [e_deedOf]
  cases h1 : w == wSay with
  | true => exact ⟨1, 3, true, rfl, fun _ => .inr ⟨rfl, .inl (eq_of_beq h1)⟩⟩
  | false =>
  cases h2 : w == wSafe with
  | true => exact ⟨1, 3, true, rfl, fun _ => .inr ⟨rfl, .inr (eq_of_beq h2)⟩⟩
  | false =>
  simp only [cond_false, Option.bind_some, Sum.elim_inl]
  cases g1 : w == wFirst with
  | true => exact ⟨2, 2, true, rfl, fun _ => .inl ⟨rfl, by simp [words8, eq_of_beq g1]⟩⟩
  | false =>
  cases g2 : w == wCarry with
  | true => exact ⟨3, 2, true, rfl, fun _ => .inl ⟨rfl, by simp [words8, eq_of_beq g2]⟩⟩
  | false =>
  cases g3 : w == wLose with
  | true => exact ⟨4, 2, true, rfl, fun _ => .inl ⟨rfl, by simp [words8, eq_of_beq g3]⟩⟩
  | false =>
  cases g4 : w == wTwice with
  | true => exact ⟨5, 2, true, rfl, fun _ => .inl ⟨rfl, by simp [words8, eq_of_beq g4]⟩⟩
  | false =>
  cases g5 : w == wAgain with
  | true => exact ⟨6, 2, true, rfl, fun _ => .inl ⟨rfl, by simp [words8, eq_of_beq g5]⟩⟩
  | false =>
  cases g6 : w == wMove with
  | true => exact ⟨7, 2, true, rfl, fun _ => .inl ⟨rfl, by simp [words8, eq_of_beq g6]⟩⟩
  | false =>
  cases g7 : w == wCrash with
  | true => exact ⟨8, 2, true, rfl, fun _ => .inl ⟨rfl, by simp [words8, eq_of_beq g7]⟩⟩
  | false =>
  cases g8 : w == wWake with
  | true => exact ⟨9, 2, true, rfl, fun _ => .inl ⟨rfl, by simp [words8, eq_of_beq g8]⟩⟩
  | false => exact ⟨0, 0, false, rfl, fun h => absurd h (by decide)⟩
theorem v_readDeedN {w : List UInt8} {rest : List (List UInt8)} (h2 : rest.length = 1 → w ∉ words8) (h3 : rest.length = 2 → w ≠ wSay ∧ w ≠ wSafe) : T_impl_readDeed (w :: rest) = some ((0, 0, 0, 0, []), false) := by
  obtain ⟨k, sz, ok, h, hk⟩ := v_deedOf w
  rw [e_T_impl_readDeed]
  simp only [List.getElem?_cons_zero, Option.bind_some, h]
  cases ok with
  | false => rfl
  | true =>
    have hne : ((((w :: rest).length : Nat) : Int) == sz) = false := by
      rw [beq_eq_false_iff_ne, List.length_cons]
      intro e
      rcases hk rfl with ⟨hs, hw⟩ | ⟨hs, hw⟩
      · exact h2 (by omega) hw
      · have := h3 (by omega)
        exact hw.elim this.1 this.2
    simp only [Bool.not_true, cond_false, hne, Bool.not_false, Option.bind_some, Sum.elim_inl, cond_true]
theorem l_DeedN {w : List UInt8} {rest : List (List UInt8)} (e : DeedU) (g : List (List UInt8)) (hg : g.length ≤ 100) : ∀ (s : List (List UInt8)) (i n : Nat), g.drop i = s → i + s.length = g.length → (∀ x ∈ s, x ≠ w ∨ rest.length ≠ 1) → s.length < n →
    L_spec_l22Deed_1 n (w :: rest, e, g, (i : Int)) = some (.inl e)
  | [], i, n + 1, h, hi, hw, hn => by
    simp only [List.length_nil, Nat.add_zero] at hi
    obtain ⟨b, c, d, e, f⟩ := e
    rw [e_L_spec_l22Deed_1]
    simp only [decide_eq_false (show ¬ ((i : Int) < (g.length : Int)) by omega), cond_false]
  | x :: s, i, n + 1, h, hi, hw, hn => by
    simp only [List.length_cons] at hi hn
    have hx : g[i]? = some x := by
      have := congrArg (fun l => l[0]?) h
      simpa using this
    have t3 : g.drop (i + 1) = s := by rw [← List.drop_drop, h]; rfl
    have ih := l_DeedN (w := w) (rest := rest) e g hg s (i + 1) n t3 (by omega) (fun y hy => hw y (List.mem_cons_of_mem _ hy)) (by omega)
    rw [show ((i + 1 : Nat) : Int) = (i : Int) + 1 by omega] at ih
    obtain ⟨b, c, d, e, f⟩ := e
    rw [e_L_spec_l22Deed_1]
    simp only [decide_eq_true (show ((i : Int) < (g.length : Int)) by omega), cond_true, Int.natCast_nonneg, if_true, Int.toNat_natCast, if_pos (show i < g.length by omega), hx, Option.bind_some, List.getElem?_cons_zero]
    by_cases he : x = w
    · have hl : rest.length ≠ 1 := (hw x List.mem_cons_self).resolve_left (fun h => h he)
      rw [show (x == w) = true by rw [he]; exact beq_self_eq_true w, show ((((w :: rest).length : Nat) : Int) == 2) = false by rw [beq_eq_false_iff_ne, List.length_cons]; omega]
      simp only [Bool.not_true, Bool.not_false, cond_true, cond_false, Option.bind_some, Sum.elim_inl, wrap_ok (n := (i : Int) + 1) (by omega) (by omega)]
      exact ih
    · rw [beq_eq_false_iff_ne.2 he]
      simp only [Bool.not_true, Bool.not_false, cond_true, cond_false, Option.bind_some, Sum.elim_inl, wrap_ok (n := (i : Int) + 1) (by omega) (by omega)]
      exact ih
theorem e_l22Deed (w : List UInt8) (rest : List (List UInt8)) : T_spec_l22Deed (w :: rest) = (bif w == wSay then some (Sum.inl (w :: rest, ((0, 0, 0, 0, []) : DeedU), (((w :: rest).length : Nat) : Int) == 3)) else bif w == wSafe then some (Sum.inl (w :: rest, ((0, 0, 0, 0, []) : DeedU), (((w :: rest).length : Nat) : Int) == 3)) else some (Sum.inl (w :: rest, ((0, 0, 0, 0, []) : DeedU), false))).bind
    (Sum.elim (fun (x : List (List UInt8) × DeedU × Bool) => bif x.snd.snd then x.fst[1]?.bind fun (y : List UInt8) => (T_spec_ReadDecimal y).bind fun (r : Int × Bool) => x.fst[2]?.bind fun (y : List UInt8) => (x.fst[0]?.bind fun (y_1 : List UInt8) => bif y_1 == wSafe then some (Sum.inl ((x.snd.fst.fst, x.snd.fst.snd.fst, x.snd.fst.snd.snd.fst, x.snd.fst.snd.snd.snd.fst, x.snd.fst.snd.snd.snd.snd), r.snd, 1, r.fst, 0, 2, y)) else some (Sum.inl ((x.snd.fst.fst, x.snd.fst.snd.fst, x.snd.fst.snd.snd.fst, x.snd.fst.snd.snd.snd.fst, x.snd.fst.snd.snd.snd.snd), r.snd, 1, r.fst, 0, 1, y))).bind (Sum.elim (fun (x : (Int × Int × Int × Int × List UInt8) × Bool × Int × Int × Int × Int × List UInt8) => some ((x.snd.snd.fst, x.snd.snd.snd.fst, x.snd.snd.snd.snd.fst, x.snd.snd.snd.snd.snd.fst, x.snd.snd.snd.snd.snd.snd), x.snd.fst)) fun (val : (Int × Int × Int × Int × List UInt8) × Bool) => some val)
      else (L_spec_l22Deed_1 fuel (x.1, (x.snd.fst.fst, x.snd.fst.snd.fst, x.snd.fst.snd.snd.fst, x.snd.fst.snd.snd.snd.fst, x.snd.fst.snd.snd.snd.snd), words8, 0)).bind (Sum.elim (fun (y : Int × Int × Int × Int × List UInt8) => some ((0, 0, 0, 0, []), false)) fun (val : (Int × Int × Int × Int × List UInt8) × Bool) => some val))
      fun (val : (Int × Int × Int × Int × List UInt8) × Bool) => some val) := e_T_spec_l22Deed (w :: rest)
theorem v_l22DeedL {w : List UInt8} (rest : List (List UInt8)) (h1 : (w == wSay) = false) (h2 : (w == wSafe) = false) : T_spec_l22Deed (w :: rest) = (L_spec_l22Deed_1 fuel (w :: rest, (0, 0, 0, 0, []), words8, 0)).bind (Sum.elim (fun (y : Int × Int × Int × Int × List UInt8) => some ((0, 0, 0, 0, []), false)) fun (val : (Int × Int × Int × Int × List UInt8) × Bool) => some val) := by
  have e1 := e_l22Deed w rest
  rw [h1, h2] at e1
  exact e1
theorem v_l22DeedF {w : List UInt8} (rest : List (List UInt8)) (h1 : (w == wSay) = false) (h2 : (w == wSafe) = false) {r : DeedU × Bool} (h : ∀ n, L_spec_l22Deed_1 (n + 9) (w :: rest, (0, 0, 0, 0, []), words8, 0) = (some (.inr r) : Option (DeedU ⊕ (DeedU × Bool)))) : T_spec_l22Deed (w :: rest) = some r := by
  obtain ⟨n, hn⟩ := fuelS
  rw [v_l22DeedL rest h1 h2, hn, h n]; rfl
theorem v_l22DeedN {w : List UInt8} {rest : List (List UInt8)} (h2 : rest.length = 1 → w ∉ words8) (h3 : rest.length = 2 → w ≠ wSay ∧ w ≠ wSafe) : T_spec_l22Deed (w :: rest) = some ((0, 0, 0, 0, []), false) := by
  have hL := l_DeedN (w := w) (rest := rest) (0, 0, 0, 0, []) words8 (by decide) words8 0 fuel rfl (by decide) (fun x hx => by
    by_cases h : rest.length = 1
    · exact .inl fun e => h2 h (e ▸ hx)
    · exact .inr h) (by simp only [fuel]; decide)
  rw [show ((0 : Nat) : Int) = 0 from rfl] at hL
  have hb : ∀ b : Bool, (b = true → rest.length ≠ 2) → (b && ((((w :: rest).length : Nat) : Int) == 3)) = false := by
    intro b hb
    cases b with
    | false => rfl
    | true => rw [Bool.true_and, beq_eq_false_iff_ne, List.length_cons]; have := hb rfl; omega
  rw [e_l22Deed]
  have key : ∀ q : Bool, q = false → (some (Sum.inl (w :: rest, ((0, 0, 0, 0, []) : DeedU), q)) : Option ((List (List UInt8) × DeedU × Bool) ⊕ (DeedU × Bool))) = some (Sum.inl (w :: rest, ((0, 0, 0, 0, []) : DeedU), false)) := fun q h => by rw [h]
  have hs : (bif w == wSay then (some (Sum.inl (w :: rest, ((0, 0, 0, 0, []) : DeedU), (((w :: rest).length : Nat) : Int) == 3)) : Option ((List (List UInt8) × DeedU × Bool) ⊕ (DeedU × Bool))) else bif w == wSafe then some (Sum.inl (w :: rest, ((0, 0, 0, 0, []) : DeedU), (((w :: rest).length : Nat) : Int) == 3)) else some (Sum.inl (w :: rest, ((0, 0, 0, 0, []) : DeedU), false))) = some (Sum.inl (w :: rest, ((0, 0, 0, 0, []) : DeedU), false)) := by
    cases h1 : w == wSay with
    | true =>
      have := hb true (fun _ h => (h3 h).1 (eq_of_beq h1))
      exact key _ (by simpa using this)
    | false =>
      cases h4 : w == wSafe with
      | true =>
        have := hb true (fun _ h => (h3 h).2 (eq_of_beq h4))
        exact key _ (by simpa using this)
      | false => rfl
  refine (congrArg (fun o => Option.bind o _) hs).trans ?_
  simp only [Option.bind_some, Sum.elim_inl, cond_false]
  rw [hL]; rfl
theorem x_Deed3 {w : List UInt8} (hw : w = wSay ∨ w = wSafe) (a b : List UInt8) : ∃ k, T_spec_l22Deed [w, a, b] = some ((1, (rdG a).1, 0, k, b), (rdG a).2) ∧ T_impl_readDeed [w, a, b] = some ((1, (rdG a).1, 0, k, b), (rdG a).2 && dOk (1, (rdG a).1, 0, k, b)) := by
  rcases hw with rfl | rfl
  · refine ⟨1, ?_, ?_⟩
    · have h : T_spec_l22Deed [wSay, a, b] = (T_spec_ReadDecimal a).bind fun r => some ((1, r.1, 0, 1, b), r.2) := by kernel_rfl
      rw [h, (x_ReadDecimal a).1]; rfl
    · have h : T_impl_readDeed [wSay, a, b] = (T_impl_ReadDecimal a).bind fun r => bif r.2 then (T_impl_DeedOk (1, r.1, 0, 1, b)).bind fun q => some ((1, r.1, 0, 1, b), q) else some ((1, r.1, 0, 1, b), false) := by kernel_rfl
      rw [h, (x_ReadDecimal a).2, Option.bind_some, (x_DeedOk _).2]
      cases (rdG a).2 <;> rfl
  · refine ⟨2, ?_, ?_⟩
    · have h : T_spec_l22Deed [wSafe, a, b] = (T_spec_ReadDecimal a).bind fun r => some ((1, r.1, 0, 2, b), r.2) := by kernel_rfl
      rw [h, (x_ReadDecimal a).1]; rfl
    · have h : T_impl_readDeed [wSafe, a, b] = (T_impl_ReadDecimal a).bind fun r => bif r.2 then (T_impl_DeedOk (1, r.1, 0, 2, b)).bind fun q => some ((1, r.1, 0, 2, b), q) else some ((1, r.1, 0, 2, b), false) := by kernel_rfl
      rw [h, (x_ReadDecimal a).2, Option.bind_some, (x_DeedOk _).2]
      cases (rdG a).2 <;> rfl
theorem x_Deed2 {w : List UInt8} (a : List UInt8) (f : Int → DeedU) (h1 : (w == wSay) = false) (h2 : (w == wSafe) = false) (hS : ∀ n, L_spec_l22Deed_1 (n + 9) ([w, a], (0, 0, 0, 0, []), words8, 0) = (T_spec_ReadDecimal a).bind fun r => some (.inr (f r.1, r.2))) (hI : T_impl_readDeed [w, a] = (T_impl_ReadDecimal a).bind fun r => bif r.2 then (T_impl_DeedOk (f r.1)).bind fun q => some (f r.1, q) else some (f r.1, false)) :
    ∃ e ok, T_spec_l22Deed [w, a] = some (e, ok) ∧ T_impl_readDeed [w, a] = some (e, ok && dOk e) := by
  refine ⟨f (rdG a).1, (rdG a).2, v_l22DeedF [a] h1 h2 (fun n => by rw [hS n, (x_ReadDecimal a).1]; rfl), ?_⟩
  rw [hI, (x_ReadDecimal a).2, Option.bind_some, (x_DeedOk _).2]
  cases (rdG a).2 <;> rfl
theorem x_Deed (w : List UInt8) (rest : List (List UInt8)) : ∃ e ok, T_spec_l22Deed (w :: rest) = some (e, ok) ∧ T_impl_readDeed (w :: rest) = some (e, ok && dOk e) := by
  by_cases h2 : rest.length = 1 ∧ w ∈ words8
  · obtain ⟨hl, hw⟩ := h2
    obtain ⟨a, rfl⟩ := List.length_eq_one_iff.1 hl
    simp only [words8, List.mem_cons, List.not_mem_nil, or_false] at hw
    rcases hw with rfl | rfl | rfl | rfl | rfl | rfl | rfl | rfl
    · exact x_Deed2 a (fun n => (2, n, 0, 0, [])) rfl rfl (fun n => by kernel_rfl) (by kernel_rfl)
    · exact x_Deed2 a (fun n => (3, 1, n, 0, [])) rfl rfl (fun n => by kernel_rfl) (by kernel_rfl)
    · exact x_Deed2 a (fun n => (4, 1, n, 0, [])) rfl rfl (fun n => by kernel_rfl) (by kernel_rfl)
    · exact x_Deed2 a (fun n => (5, 1, n, 0, [])) rfl rfl (fun n => by kernel_rfl) (by kernel_rfl)
    · exact x_Deed2 a (fun n => (6, n, 0, 0, [])) rfl rfl (fun n => by kernel_rfl) (by kernel_rfl)
    · exact x_Deed2 a (fun n => (7, n, 0, 0, [])) rfl rfl (fun n => by kernel_rfl) (by kernel_rfl)
    · exact x_Deed2 a (fun n => (8, n, 0, 0, [])) rfl rfl (fun n => by kernel_rfl) (by kernel_rfl)
    · exact x_Deed2 a (fun n => (9, n, 0, 0, [])) rfl rfl (fun n => by kernel_rfl) (by kernel_rfl)
  by_cases h3 : rest.length = 2 ∧ (w = wSay ∨ w = wSafe)
  · obtain ⟨hl, hw⟩ := h3
    obtain ⟨a, b, rfl⟩ : ∃ a b, rest = [a, b] := by
      match rest, hl with
      | [a, b], _ => exact ⟨a, b, rfl⟩
    obtain ⟨k, h1, h2⟩ := x_Deed3 hw a b
    exact ⟨_, _, h1, h2⟩
  have g2 : rest.length = 1 → w ∉ words8 := fun h hw => h2 ⟨h, hw⟩
  have g3 : rest.length = 2 → w ≠ wSay ∧ w ≠ wSafe := fun h => ⟨fun e => h3 ⟨h, .inl e⟩, fun e => h3 ⟨h, .inr e⟩⟩
  exact ⟨_, _, v_l22DeedN g2 g3, v_readDeedN g2 g3⟩
end Xs
end Go.Proofs.YtceeeagdjphbnaaDoor
