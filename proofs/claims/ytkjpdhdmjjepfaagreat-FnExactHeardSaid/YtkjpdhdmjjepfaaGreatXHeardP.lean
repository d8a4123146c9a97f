/- What the reference's function answers, and the program's: the same. -/
import Derived.Test.YtkjpdhdmjjepfaaGreatXHeardPa
namespace Go.Proofs.YtkjpdhdmjjepfaaGreat
open Go Vm
set_option linter.unusedVariables false
set_option linter.unusedSimpArgs false
namespace Xs
abbrev StrT := List UInt8
def once (a b l : List StrT) (s : StrT) : Bool := ((a.count s : Int) == 1) && ((b.count s : Int) == 1) && ((l.count s : Int) == 1)
def plcF (s : StrT) : List StrT → Nat → Int
  | [], _ => -1
  | y :: ys, i => bif y == s then (i : Int) else plcF s ys (i + 1)
def plc (b : List StrT) (s : StrT) : Int := plcF s b 0
theorem plcF_le {s : StrT} : ∀ {b : List StrT} {i j : Nat}, b[j]? = some s → plcF s b i ≤ (i + j : Nat) ∧ (i : Int) ≤ plcF s b i ∧ b[(plcF s b i - i).toNat]? = some s
  | [], i, j, h => by simp at h
  | y :: ys, i, 0, h => by
    simp only [List.getElem?_cons_zero, Option.some.injEq] at h
    subst h
    simp only [plcF, beq_self_eq_true, cond_true]
    refine ⟨by omega, by omega, ?_⟩
    simp
  | y :: ys, i, j + 1, h => by
    simp only [List.getElem?_cons_succ] at h
    simp only [plcF]
    cases hy : y == s
    · obtain ⟨h1, h2, h3⟩ := plcF_le (i := i + 1) h
      simp only [cond_false]
      refine ⟨by omega, by omega, ?_⟩
      have : (plcF s ys (i + 1) - (i : Int)).toNat = (plcF s ys (i + 1) - ((i + 1 : Nat) : Int)).toNat + 1 := by omega
      rw [this, List.getElem?_cons_succ]; exact h3
    · simp only [cond_true]
      have := eq_of_beq hy
      subst this
      exact ⟨by omega, by omega, by simp⟩
theorem plc_le {s : StrT} {b : List StrT} {j : Nat} (h : b[j]? = some s) : plc b s ≤ j ∧ 0 ≤ plc b s ∧ b[(plc b s).toNat]? = some s := by
  have := plcF_le (i := 0) h
  simpa [plc] using this
theorem one_at {s : StrT} : ∀ {b : List StrT} {i j : Nat}, b.count s = 1 → b[i]? = some s → b[j]? = some s → i = j
  | [], i, j, h, _, _ => by simp at h
  | y :: ys, i, j, h, hi, hj => by
    by_cases hy : y = s
    · subst hy
      have h0 : ys.count y = 0 := by simpa using h
      have hn : ∀ k : Nat, ys[k]? ≠ some y := fun k hk => (List.count_eq_zero.1 h0) (List.mem_of_getElem? hk)
      cases i with
      | zero => cases j with
        | zero => rfl
        | succ j => exact absurd (by simpa using hj) (hn j)
      | succ i => exact absurd (by simpa using hi) (hn i)
    · have h1 : ys.count s = 1 := by rwa [List.count_cons_of_ne (by simpa using hy)] at h
      cases i with
      | zero => simp at hi; exact absurd hi hy
      | succ i => cases j with
        | zero => simp at hj; exact absurd hj hy
        | succ j => have := one_at (i := i) (j := j) h1 (by simpa using hi) (by simpa using hj); omega
theorem once_count {a b l : List StrT} {s : StrT} (h : once a b l s = true) : a.count s = 1 ∧ b.count s = 1 ∧ l.count s = 1 := by
  simp only [once, Bool.and_eq_true, beq_iff_eq] at h
  omega
theorem once_comm {a b l : List StrT} : once b a l = once a b l := by
  funext s; simp only [once]; rw [Bool.and_comm ((b.count s : Int) == 1)]
def pairB (a b l : List StrT) : Prop := a.Pairwise (fun s t => once a b l s = true → once a b l t = true → ¬ plc b t < plc b s)
theorem pair_iff (a b l : List StrT) : pairB a b l ↔ a.filter (once a b l) = b.filter (once b a l) := by
  rw [once_comm (a := a) (b := b)]
  have hB : (b.filter (once a b l)).Pairwise (fun s t => plc b s ≤ plc b t) := by
    rw [List.pairwise_filter, List.pairwise_iff_getElem]
    intro i j hi hj hij h1 h2
    have e1 := plc_le (List.getElem?_eq_getElem hi)
    have e2 := plc_le (List.getElem?_eq_getElem hj)
    have := one_at (once_count h2).2.1 e2.2.2 (List.getElem?_eq_getElem hj)
    omega
  have hA : pairB a b l ↔ (a.filter (once a b l)).Pairwise (fun s t => plc b s ≤ plc b t) := by
    rw [List.pairwise_filter, pairB]
    constructor
    · intro h; exact h.imp (fun h h1 h2 => by have := h h1 h2; omega)
    · intro h; exact h.imp (fun h h1 h2 => by have := h h1 h2; omega)
  rw [hA]
  constructor
  · intro h
    refine List.Perm.eq_of_pairwise (le := fun s t => plc b s ≤ plc b t) ?_ h hB ?_
    · intro s t hs ht h1 h2
      rw [List.mem_filter] at hs ht
      have m1 : s ∈ b := List.count_pos_iff.1 (by rw [(once_count hs.2).2.1]; exact Nat.one_pos)
      obtain ⟨i, hi⟩ := List.mem_iff_getElem?.1 m1
      obtain ⟨j, hj⟩ := List.mem_iff_getElem?.1 ht.1
      have e1 := plc_le hi
      have e2 := plc_le hj
      have : (plc b s) = plc b t := by omega
      rw [this] at e1
      exact Option.some.inj (e1.2.2.symm.trans e2.2.2)
    · rw [List.perm_iff_count]
      intro s
      by_cases hs : once a b l s = true
      · rw [List.count_filter hs, List.count_filter hs, (once_count hs).1, (once_count hs).2.1]
      · rw [List.count_eq_zero.2 (fun h => hs (List.mem_filter.1 h).2), List.count_eq_zero.2 (fun h => hs (List.mem_filter.1 h).2)]
  · intro h; rw [h]; exact hB
theorem fold_cnt (s : StrT) : ∀ (l : List StrT) (k : Int), 0 ≤ k → k + l.length ≤ 9223372036854775807 → l.foldl (fun c y => bif y == s then IntKind.i64.wrap (c + 1) else c) k = k + (l.count s : Int)
  | [], k, _, _ => by simp
  | y :: l, k, h1, h2 => by
    simp only [List.length_cons] at h2
    simp only [List.foldl_cons, List.count_cons]
    cases y == s
    · rw [cond_false, fold_cnt s l k h1 (by omega)]; simp
    · rw [cond_true, wrap_ok (by omega) (by omega), fold_cnt s l (k + 1) (by omega) (by omega)]; simp; omega
theorem runL_plc (s : StrT) : ∀ (l : List StrT) (k : Nat), (Sum.elim (fun _ => (-1 : Int)) (fun r => r) (runL (fun i y (_ : Unit) => bif y == s then (.inr (i : Int) : Unit ⊕ Int) else .inl ()) k l ())) = plcF s l k
  | [], _ => rfl
  | y :: l, k => by
    simp only [runL, plcF]
    cases y == s
    · simpa using runL_plc s l (k + 1)
    · rfl
def badB (a b l : List StrT) (s t : StrT) : Bool := once a b l s && once a b l t && decide (plc b t < plc b s)
theorem runL_pairs {α : Type} (p : α → α → Bool) (a : List α) : ∀ (l l1 : List α), a = l1 ++ l → l1.Pairwise (fun x y => p x y = true) →
    (a.Pairwise (fun x y => p x y = true) ∧ runL (fun i y (_ : Unit) => bif (a.take i).all (fun x => p x y) then (.inl () : Unit ⊕ Bool) else .inr false) l1.length l () = .inl ()) ∨
    (¬ a.Pairwise (fun x y => p x y = true) ∧ runL (fun i y (_ : Unit) => bif (a.take i).all (fun x => p x y) then (.inl () : Unit ⊕ Bool) else .inr false) l1.length l () = .inr false)
  | [], l1, h, h1 => by rw [List.append_nil] at h; subst h; exact .inl ⟨h1, rfl⟩
  | y :: l, l1, h, h1 => by
    have ht : a.take l1.length = l1 := by rw [h]; simp
    simp only [runL, ht]
    by_cases hp : l1.all (fun x => p x y) = true
    · simp only [hp, cond_true, Sum.elim_inl]
      have := runL_pairs p a l (l1 ++ [y]) (by rw [h]; simp) (by
        rw [List.pairwise_append]
        refine ⟨h1, by simp, fun x hx z hz => ?_⟩
        simp only [List.mem_singleton] at hz
        subst hz
        exact List.all_eq_true.1 hp x hx)
      rwa [List.length_append, List.length_singleton] at this
    · have hf : l1.all (fun x => p x y) = false := by simpa using hp
      simp only [hf, cond_false, Sum.elim_inr]
      refine .inr ⟨fun hc => hp ?_, trivial⟩
      rw [h, List.pairwise_append] at hc
      exact List.all_eq_true.2 fun x hx => hc.2.2 x hx y (by simp)
abbrev EventT := Int × (Int × List Int) × (Int × Int × Int × List UInt8) × List Int
def textL (l : List EventT) : List StrT := l.filterMap (fun y => bif y.1 == 1 then some y.2.2.1.2.2.2 else none)
theorem textL_len (a : List EventT) : (textL a).length ≤ a.length := List.length_filterMap_le _ _
theorem x_Concat {a : List (List StrT)} (h2 : a.length ≤ 2) (h : ∀ y ∈ a, y.length ≤ 1048576) : T_slices_Concat___string_string_ a = some a.flatten := by
  rw [e_T_slices_Concat___string_string_]
  obtain ⟨s', h1, h3⟩ := loop_all (L := L_slices_Concat___string_string__1) a (fun (s : Int) i => (a, s, a, (a.length : Int), i)) (fun s => (a, s)) (fun i s => 0 ≤ s ∧ s ≤ i * 1048576) (fun i y s hy hi hs => by
    have hl := h y (List.mem_of_getElem? hy)
    refine ⟨s + y.length, ⟨by omega, by omega⟩, fun n => ?_⟩
    rw [e_L_slices_Concat___string_string__1]
    simp only [show ((i : Int) < (a.length : Int)) by omega, decide_true, cond_true, Int.natCast_nonneg, if_true, Int.toNat_natCast, hy, Option.bind_some, wrap_ok (n := s + (y.length : Int)) (by omega) (by omega), show ¬ (s + (y.length : Int) < 0) by omega, decide_false, cond_false, wrap_ok (n := (i : Int) + 1) (by omega) (by omega)]) (fun n s hs => by rw [e_L_slices_Concat___string_string__1]; simp) (by rw [maxLen_eq]; omega) 0 (by simp)
  have hg : T_slices_Grow___string_string_ ([], s') = some [] := by
    unfold T_slices_Grow___string_string_
    simp only
    rw [if_pos ⟨by omega, by omega⟩]
  obtain ⟨s2, h4, h5⟩ := loop_all (L := L_slices_Concat___string_string__2) a (fun (s : List StrT) i => (s, a, (a.length : Int), i)) (fun s => s) (fun i s => s = (a.take i).flatten ∧ s.length ≤ i * 1048576) (fun i y s hy hi hs => by
    have hl := h y (List.mem_of_getElem? hy)
    refine ⟨s ++ y, ⟨by rw [hs.1, List.take_add_one, hy]; simp, by rw [List.length_append]; omega⟩, fun n => ?_⟩
    have hc1 : (s.length + y.length) * 16 ≤ 140737488355328 := by omega
    have hc2 : s.length + y.length ≤ 9223372036854775807 := by omega
    rw [e_L_slices_Concat___string_string__2]
    simp only [show ((i : Int) < (a.length : Int)) by omega, decide_true, cond_true, Int.natCast_nonneg, if_true, Int.toNat_natCast, hy, Option.bind_some, hc1, hc2, and_self, List.append_eq, wrap_ok (n := (i : Int) + 1) (by omega) (by omega)]) (fun n s hs => by rw [e_L_slices_Concat___string_string__2]; simp) (by rw [maxLen_eq]; omega) [] (by simp)
  rw [h3]
  simp only [Option.bind_some, Sum.elim_inl, hg, h5]
  rw [h4.1]; simp
abbrev DaemonT := Int × Bool × (Int × (Int × List Int) × List (Int × Int × Int × List UInt8) × List Int × List (List UInt8) × Int × Int × Int × Int × Int × Int × Int × Int × Int × List Int) × Int × Int × (Int × List Int) × List (Int × Int × Int × List (Int × Int × Int × List UInt8)) × List EventT
abbrev CallerT := (Int × List UInt8 × (List UInt8 × Bool) × Bool × List (List UInt8)) × (List UInt8 × List (List UInt8) × Bool) × List UInt8 × List (List UInt8)
def heardL (e : List CallerT) (i : Nat) : List StrT := match e[i]? with
  | some y => y.2.2.2 ++ y.2.1.2.1
  | none => []
def logL (b : List DaemonT) (d : Int) : List StrT := if 1 ≤ d ∧ d ≤ b.length then (match b[(d - 1).toNat]? with | some y => textL y.2.2.2.2.2.2.2 | none => []) else []
def SmC (e : List CallerT) : Prop := e.length ≤ 1048576 ∧ ∀ y ∈ e, y.2.2.2.length ≤ 1048576 ∧ y.2.1.2.1.length ≤ 1048576
def SmD (b : List DaemonT) : Prop := b.length ≤ 1048576 ∧ ∀ y ∈ b, List.length y.2.2.2.2.2.2.2 ≤ 1048576 ∧ ∀ z ∈ y.2.2.2.2.2.2.2, z.2.1.2.length ≤ 1048576 ∧ z.2.2.2.length ≤ 1048576
theorem heard_len {e : List CallerT} (h : SmC e) (i : Nat) : (heardL e i).length ≤ 4194304 := by
  unfold heardL
  split
  · rename_i y hy
    have := h.2 y (List.mem_of_getElem? hy)
    rw [List.length_append]; omega
  · simp
theorem x_HeardS {a : List (Int × List Int)} {b : List DaemonT} {c : List (Int × Int × Int × (Int × Int × Int × List UInt8) × (Int × Int × Int × Int × Int × List Int) × Int × Int × Int × List (Int × Int × Int × List UInt8))} {d : List EventT} {e : List CallerT} {f : List (List (List UInt8 × List (List UInt8)))} {g : List Int} {i : Nat} (h : SmC e) (hi : i < e.length) :
    T_spec_Heard (((a, b, c, d), e, f, g), IntKind.i64.wrap ((i : Int) + 1)) = some (heardL e i) := by
  obtain ⟨hl, hc⟩ := h
  have hy : e[i]? = some e[i] := List.getElem?_eq_getElem hi
  obtain ⟨h1, h2⟩ := hc e[i] (List.getElem_mem hi)
  rw [wrap_ok (by omega) (by omega), e_T_spec_Heard, (x_inRange _ _ _).1]
  have hw : IntKind.i64.wrap ((i : Int) + 1 - 1) = (i : Int) := by rw [wrap_ok (by omega) (by omega)]; omega
  rw [heardL, hy]
  generalize e[i] = y at h1 h2 hy
  simp only [show (1 : Int) ≤ (i : Int) + 1 ∧ (i : Int) + 1 ≤ (e.length : Int) by omega, and_self, decide_true, Option.bind_some, Bool.not_true, cond_false, hw, Int.natCast_nonneg, if_true, Int.toNat_natCast, hy,
    show (0 + y.2.2.2.length) * 16 ≤ 140737488355328 by omega, show 0 + y.2.2.2.length ≤ 9223372036854775807 by omega, show (y.2.2.2.length + y.2.1.2.1.length) * 16 ≤ 140737488355328 by omega, show y.2.2.2.length + y.2.1.2.1.length ≤ 9223372036854775807 by omega, List.append_eq]
theorem x_HeardI {a : List (Int × List Int)} {b : List DaemonT} {c : List (Int × Int × Int × (Int × Int × Int × List UInt8) × (Int × Int × Int × Int × Int × List Int) × Int × Int × Int × List (Int × Int × Int × List UInt8))} {d : List EventT} {e : List CallerT} {f : List (List (List UInt8 × List (List UInt8)))} {g : List Int} {i : Nat} (h : SmC e) (hi : i < e.length) :
    T_impl_Heard (((a, b, c, d), e, f, g), IntKind.i64.wrap ((i : Int) + 1)) = some (heardL e i) := by
  obtain ⟨hl, hc⟩ := h
  have hy : e[i]? = some e[i] := List.getElem?_eq_getElem hi
  obtain ⟨h1, h2⟩ := hc e[i] (List.getElem_mem hi)
  rw [wrap_ok (by omega) (by omega), e_T_impl_Heard, (x_inRange _ _ _).2]
  have hw : IntKind.i64.wrap ((i : Int) + 1 - 1) = (i : Int) := by rw [wrap_ok (by omega) (by omega)]; omega
  rw [heardL, hy]
  generalize e[i] = y at h1 h2 hy
  have hcc : T_slices_Concat___string_string_ [y.2.2.2, y.2.1.2.1] = some (y.2.2.2 ++ y.2.1.2.1) := by
    rw [x_Concat (by simp) (by simp only [List.mem_cons, List.not_mem_nil, or_false]; rintro z (rfl | rfl) <;> assumption)]; simp
  simp only [show (1 : Int) ≤ (i : Int) + 1 ∧ (i : Int) + 1 ≤ (e.length : Int) by omega, and_self, decide_true, Option.bind_some, Bool.not_true, cond_false, hw, Int.natCast_nonneg, if_true, Int.toNat_natCast, hy, hcc]
theorem log_len {b : List DaemonT} (h : SmD b) (d : Int) : (logL b d).length ≤ 4194304 := by
  unfold logL
  split
  · split
    · rename_i y hy
      have := (h.2 y (List.mem_of_getElem? hy)).1
      have := textL_len y.2.2.2.2.2.2.2
      omega
    · simp
  · simp
def badH (b : List DaemonT) (e : List CallerT) (i k : Nat) (y z : CallerT) : Bool :=
  y.1.1 == z.1.1 && !((heardL e i).filter (once (heardL e i) (heardL e k) (logL b y.1.1)) == (heardL e k).filter (once (heardL e k) (heardL e i) (logL b y.1.1)))
theorem once_nil {a b : List StrT} : once a b [] = fun _ => false := by
  funext s; simp [once]
theorem filt_none (l : List StrT) : l.filter (fun _ => false) = [] := by
  simp
def stI (b : List DaemonT) (e : List CallerT) (i : Nat) (y : CallerT) (k : Nat) (z : CallerT) (_ : Unit) : Unit ⊕ Bool := bif badH b e i k y z then .inr false else .inl ()
def stO (b : List DaemonT) (e : List CallerT) (i : Nat) (y : CallerT) (_ : Unit) : Unit ⊕ Bool := runL (stI b e i y) 0 (e.take i) ()
theorem x_Heard {a : List (Int × List Int)} {b : List DaemonT} {c : List (Int × Int × Int × (Int × Int × Int × List UInt8) × (Int × Int × Int × Int × Int × List Int) × Int × Int × Int × List (Int × Int × Int × List UInt8))} {d : List EventT} {e : List CallerT} {f : List (List (List UInt8 × List (List UInt8)))} {g : List Int} {i : Int} (h : SmC e) :
    ∃ v, T_spec_Heard (((a, b, c, d), e, f, g), i) = some v ∧ T_impl_Heard (((a, b, c, d), e, f, g), i) = some v ∧ (v = [] ∨ ∃ y ∈ e, v = y.2.2.2 ++ y.2.1.2.1) := by
  have hl := h.1
  by_cases hr : 1 ≤ i ∧ i ≤ (e.length : Int)
  · obtain ⟨k, rfl⟩ : ∃ k : Nat, i = (k : Int) + 1 := ⟨(i - 1).toNat, by omega⟩
    have hk : k < e.length := by omega
    have h1 := x_HeardS (a := a) (b := b) (c := c) (d := d) (f := f) (g := g) h hk
    have h2 := x_HeardI (a := a) (b := b) (c := c) (d := d) (f := f) (g := g) h hk
    rw [wrap_ok (by omega) (by omega)] at h1 h2
    refine ⟨_, h1, h2, .inr ⟨e[k], List.getElem_mem hk, ?_⟩⟩
    simp [heardL, List.getElem?_eq_getElem hk]
  · refine ⟨[], ?_, ?_, .inl rfl⟩
    · rw [e_T_spec_Heard, (x_inRange _ _ _).1]
      simp only [hr, decide_false, Option.bind_some, Bool.not_false, cond_true]
    · rw [e_T_impl_Heard, (x_inRange _ _ _).2]
      simp only [hr, decide_false, Option.bind_some, Bool.not_false, cond_true]
abbrev RingE (o : Bool) : ET := .pair (.int .i64) (.sl o (.int .i64))
abbrev ItemE : ET := .pair (.int .i64) (.pair (.int .i64) (.pair (.int .i64) .str))
abbrev TokE (o : Bool) : ET := .pair (.int .i64) (.pair (.int .i64) (.pair (.int .i64) (.pair (.int .i64) (.pair (.int .i64) (.sl o (.int .i64))))))
abbrev MateE (o : Bool) : ET := .pair (.int .i64) (.pair (RingE o) (.pair (.sl o ItemE) (.pair (.sl o (.int .i64)) (.pair (.sl o .str) (.pair (.int .i64) (.pair (.int .i64) (.pair (.int .i64) (.pair (.int .i64) (TokE o)))))))))
abbrev BundleE (o : Bool) : ET := .pair (.int .i64) (.pair (.int .i64) (.pair (.int .i64) (.sl o ItemE)))
abbrev EventE (o : Bool) : ET := .pair (.int .i64) (.pair (RingE o) (.pair ItemE (.sl o (.int .i64))))
abbrev DaemonE (o : Bool) : ET := .pair (.int .i64) (.pair .bool (.pair (MateE o) (.pair (.int .i64) (.pair (.int .i64) (.pair (RingE o) (.pair (.sl o (BundleE o)) (.sl o (EventE o))))))))
abbrev LetterE (o : Bool) : ET := .pair (.int .i64) (.pair (.int .i64) (.pair (.int .i64) (.pair ItemE (.pair (TokE o) (BundleE o)))))
abbrev WorldE (o : Bool) : ET := .pair (.sl o (RingE o)) (.pair (.sl o (DaemonE o)) (.pair (.sl o (LetterE o)) (.sl o (EventE o))))
abbrev CallerE (o : Bool) : ET := .pair (.pair (.int .i64) (.pair .str (.pair (.pair .str .bool) (.pair .bool (.sl o .str))))) (.pair (.pair .str (.pair (.sl o .str) .bool)) (.pair .str (.sl o .str)))
abbrev HallE (o : Bool) : ET := .pair (WorldE o) (.pair (.sl o (CallerE o)) (.pair (.sl o (.sl o (.pair .str (.sl o .str)))) (.sl o (.int .i64))))
theorem law_FnExactHeard (x : Den [.agg (HallE false), .cell (.int .i64)]) (h : okL [.agg (HallE false), .cell (.int .i64)] x) : T_laws_FnExactHeard x = some true := by
  obtain ⟨⟨⟨a, b, c, d⟩, e, f, g⟩, i⟩ := x
  obtain ⟨r, h1, h2, h3⟩ := zm_szHall ((a, b, c, d), e, f, g) 1048576 h.1 (by decide) (by decide)
  rw [e_T_laws_FnExactHeard, h1]
  simp only [Option.bind_some]
  by_cases hr : r < 0
  · simp [hr]
  · have hm : (HallE false).ms ((a, b, c, d), e, f, g) ≤ 1048576 := Int.le_trans (h3 (by omega)) (by omega)
    have hs : (HallE false).small ((a, b, c, d), e, f, g) := ms_small _ _ hm
    obtain ⟨v, h4, h5, h6⟩ := x_Heard (a := a) (b := b) (c := c) (d := d) (e := e) (f := f) (g := g) (i := i) ⟨hs.2.1.1, fun y hy => ⟨(hs.2.1.2 y hy).2.2.2.1, (hs.2.1.2 y hy).2.1.2.1.1⟩⟩
    have hv : (ET.sl false .str).ms v ≤ 1048576 := by
      rcases h6 with rfl | ⟨y, hy, rfl⟩
      · simp [ET.ms, sumI]
      · have q1 := sumI_mem (ms_nn (CallerE false)) hy
        have q2 := ms_nn (WorldE false) (a, b, c, d)
        have q3 := ms_nn (.sl false (.sl false (.pair .str (.sl false .str)))) f
        have q4 := ms_nn (.sl false (.int .i64)) g
        have q5 : (HallE false).ms ((a, b, c, d), e, f, g) = (WorldE false).ms (a, b, c, d) + (((e.length : Int) + sumI (CallerE false).ms e) + ((ET.sl false (.sl false (.pair .str (.sl false .str)))).ms f + (ET.sl false (.int .i64)).ms g)) := rfl
        obtain ⟨⟨y1, y2, ⟨y3, y4⟩, y5, y6⟩, ⟨y7, y8, y9⟩, y10, y11⟩ := y
        have q6 : (CallerE false).ms ((y1, y2, (y3, y4), y5, y6), (y7, y8, y9), y10, y11) = (0 + ((y2.length : Int) + (((y3.length : Int) + 0) + (0 + ((y6.length : Int) + sumI ET.str.ms y6))))) + (((y7.length : Int) + (((y8.length : Int) + sumI ET.str.ms y8) + 0)) + ((y10.length : Int) + ((y11.length : Int) + sumI ET.str.ms y11))) := rfl
        have q7 := sumI_nn (ms_nn .str) y6
        show ((y11 ++ y8).length : Int) + sumI ET.str.ms (y11 ++ y8) ≤ 1048576
        rw [sumI_app, List.length_append]
        omega
    have hvs : (ET.sl false .str).small v := ms_small _ _ hv
    have w1 := wt_top (e := HallE true) (x := ((a, b, c, d), e, f, g)) hm
    have w2 : (HallE true).fw + (HallE true).mw * 1048576 ≤ 1000000000 := by decide +kernel
    have w3 := wt_top (e := .sl true .str) (x := v) hv
    have w4 : (ET.sl true .str).fw + (ET.sl true .str).mw * 1048576 ≤ 1000000000 := by decide +kernel
    have w5 := wt_nn (HallE true) ((a, b, c, d), e, f, g)
    have w6 := wt_nn (.sl true .str) v
    obtain ⟨k1, x1, m1, _, l1⟩ := (show MkW (HallE true) T_laws_markHall _ from mk_markHall) ((a, b, c, d), e, f, g) 1 hs (by decide) (by omega)
    obtain ⟨k2, x2, m2, d2, l2⟩ := mk_markStringS v 1 hvs (by decide) (by omega)
    have n1 : decide (k1 < 0) = false := decide_eq_false (by omega)
    have n2 : decide (k2 < 0) = false := decide_eq_false (by omega)
    simp only [hr, decide_false, cond_false, c_toHall hs, h4, h5, q_eqStringS hvs, q_eqHall hs, m1, m2, d2, n1, n2, Option.bind_some, Sum.elim_inl, beq_self_eq_true, Bool.not_true]
end Xs
end Go.Proofs.YtkjpdhdmjjepfaaGreat
