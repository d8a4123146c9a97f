/- What the reference's function answers, and the program's: the same. -/
import Derived.Test.YtainknkfjekngaaDoorXKpPb
namespace Go.Proofs.YtainknkfjekngaaDoor
open Go Vm
set_option linter.unusedVariables false
set_option linter.unusedSimpArgs false
namespace Xs
abbrev TabE (o : Bool) : ET := .sl o (.pair .str (.sl o .str))
/-- A loop that keeps those that a test lets through. -/
theorem filt_loop {α σ τ β : Type} {L : Nat → σ → Option (τ ⊕ β)} (a : List α) (st : List α → Int → σ) (fin : List α → τ) (p : α → Bool) (acc0 : List α) (hlen : a.length ≤ 4194304)
    (hstep : ∀ n acc (i : Nat) y, a[i]? = some y → i < a.length → acc.length ≤ acc0.length + i → L (n + 1) (st acc (i : Int)) = L n (st (bif p y then acc ++ [y] else acc) ((i : Int) + 1)))
    (hend : ∀ n acc, L (n + 1) (st acc (a.length : Int)) = some (.inl (fin acc))) : L fuel (st acc0 0) = some (.inl (fin (acc0 ++ a.filter p))) := by
  suffices h : ∀ (s : List α) (i n : Nat) (acc : List α), a.drop i = s → i + s.length = a.length → acc.length ≤ acc0.length + i → s.length < n → L n (st acc (i : Int)) = some (.inl (fin (acc ++ s.filter p))) by
    have := h a 0 fuel acc0 rfl (by omega) (by omega) (by simp only [fuel]; omega)
    exact this
  intro s
  induction s with
  | nil =>
    intro i n acc h1 h2 h3 h4
    obtain ⟨n, rfl⟩ : ∃ m, n = m + 1 := ⟨n - 1, by simp at h4; omega⟩
    simp only [List.length_nil, Nat.add_zero] at h2
    rw [h2, hend, List.filter_nil, List.append_nil]
  | cons x s ih =>
    intro i n acc h1 h2 h3 h4
    simp only [List.length_cons] at h2 h4
    obtain ⟨n, rfl⟩ : ∃ m, n = m + 1 := ⟨n - 1, by omega⟩
    have hx : a[i]? = some x := by
      have := congrArg (fun l => l[0]?) h1
      simpa using this
    have t3 : a.drop (i + 1) = s := by rw [← List.drop_drop, h1]; rfl
    rw [hstep n acc i x hx (by omega) h3]
    have hi := ih (i + 1) n (bif p x then acc ++ [x] else acc) t3 (by omega) (by cases p x <;> simp <;> omega) (by omega)
    rw [show ((i + 1 : Nat) : Int) = (i : Int) + 1 by omega] at hi
    rw [hi, List.filter_cons]
    cases p x with
    | true => simp
    | false => simp
def setG (t : List GroupT) (g : List UInt8) (ms : List (List UInt8)) : List GroupT := loF Prod.fst g t ++ ((bif decide (0 < (ms.length : Int)) then [(g, ms)] else []) ++ hiF Prod.fst g t)
def memG (t : List GroupT) (g : List UInt8) : List (List UInt8) := match t.find? (fun y => y.1 == g) with
  | some y => y.2
  | none => []
theorem x_l17Set {t : List GroupT} (g : List UInt8) (ms : List (List UInt8)) (ht : t.length ≤ 4194304) : T_spec_l17Set (t, g, ms) = some (setG t g ms) := by
  have h1 := filt_loop (L := L_spec_l17Set_1) t (fun acc i => (g, ms, t, [], acc, i)) (fun acc => (g, ms, t, [], acc)) (fun y => Op.bytesLess y.1 g) [] ht (fun n acc i y hy hi hacc => by
    simp only [List.length_nil] at hacc
    rw [e_L_spec_l17Set_1]
    simp only [decide_eq_true (show (i : Int) < (t.length : Int) by omega), cond_true, Int.natCast_nonneg, if_true, Int.toNat_natCast, hy, Option.bind_some]
    cases Op.bytesLess y.1 g with
    | true => simp only [cond_true, if_pos (show (acc.length + 1) * 40 ≤ 140737488355328 ∧ acc.length + 1 ≤ 9223372036854775807 by omega), Option.bind_some, Sum.elim_inl, List.append_eq, wrap_ok (n := (i : Int) + 1) (by omega) (by omega)]
    | false => simp only [cond_false, Option.bind_some, Sum.elim_inl, wrap_ok (n := (i : Int) + 1) (by omega) (by omega)])
    (fun n acc => by rw [e_L_spec_l17Set_1]; simp)
  have hl := List.length_filter_le (fun y : GroupT => Op.bytesLess y.1 g) t
  have h2 := fun (acc0 : List GroupT) (h0 : acc0.length ≤ 4194305) => filt_loop (L := L_spec_l17Set_2) t (fun acc i => (g, t, [], acc, i)) (fun acc => (([] : List GroupT), acc)) (fun y => !(Op.bytesLess y.1 g || y.1 == g)) acc0 ht (fun n acc i y hy hi hacc => by
    rw [e_L_spec_l17Set_2]
    simp only [decide_eq_true (show (i : Int) < (t.length : Int) by omega), cond_true, Int.natCast_nonneg, if_true, Int.toNat_natCast, hy, Option.bind_some]
    cases (Op.bytesLess y.1 g || y.1 == g) with
    | false => simp only [Bool.not_false, cond_true, if_pos (show (acc.length + 1) * 40 ≤ 140737488355328 ∧ acc.length + 1 ≤ 9223372036854775807 by omega), Option.bind_some, Sum.elim_inl, List.append_eq, wrap_ok (n := (i : Int) + 1) (by omega) (by omega)]
    | true => simp only [Bool.not_true, cond_false, Option.bind_some, Sum.elim_inl, wrap_ok (n := (i : Int) + 1) (by omega) (by omega)])
    (fun n acc => by rw [e_L_spec_l17Set_2]; simp)
  rw [e_T_spec_l17Set, h1]
  simp only [Option.bind_some, Sum.elim_inl, List.nil_append]
  unfold setG loF hiF
  cases decide (0 < (ms.length : Int)) with
  | true =>
    simp only [cond_true, if_pos (show ((t.filter (fun y : GroupT => Op.bytesLess y.1 g)).length + 1) * 40 ≤ 140737488355328 ∧ (t.filter (fun y : GroupT => Op.bytesLess y.1 g)).length + 1 ≤ 9223372036854775807 by omega), Option.bind_some, Sum.elim_inl, List.append_eq]
    rw [h2 _ (by rw [List.length_append, List.length_singleton]; omega)]
    simp only [Option.bind_some, Sum.elim_inl, List.append_assoc]
  | false =>
    simp only [cond_false, Option.bind_some, Sum.elim_inl]
    rw [h2 _ (by omega)]
    simp only [Option.bind_some, Sum.elim_inl, List.nil_append]
theorem clone_ok {a : List (List UInt8)} (h : a.length ≤ 1048576) : T_slices_Clone___string_string_ a = some a := by
  rw [e_T_slices_Clone___string_string_, if_pos (by omega)]
  cases a with
  | nil => exact both_same
  | cons => rfl
theorem x_copyS {t : List GroupT} (ht : t.length ≤ 4194304) (hm : ∀ y ∈ t, y.2.length ≤ 1048576) : T_spec_l17Copy t = some t ∧ T_impl_copyTable t = some t := by
  have hf : t.filter (fun _ => true) = t := List.filter_eq_self.2 (fun _ _ => rfl)
  constructor
  · have h1 := filt_loop (L := L_spec_l17Copy_1) t (fun acc i => (t, [], acc, i)) (fun acc => (([] : List GroupT), acc)) (fun _ => true) [] ht (fun n acc i y hy hi hacc => by
      simp only [List.length_nil] at hacc
      have hym := hm y (List.mem_of_getElem? hy)
      rw [e_L_spec_l17Copy_1]
      simp only [decide_eq_true (show (i : Int) < (t.length : Int) by omega), cond_true, Int.natCast_nonneg, if_true, Int.toNat_natCast, hy, Option.bind_some, if_pos (show (0 + y.2.length) * 16 ≤ 140737488355328 ∧ 0 + y.2.length ≤ 9223372036854775807 by omega), if_pos (show (acc.length + 1) * 40 ≤ 140737488355328 ∧ acc.length + 1 ≤ 9223372036854775807 by omega), List.append_eq, wrap_ok (n := (i : Int) + 1) (by omega) (by omega)])
      (fun n acc => by rw [e_L_spec_l17Copy_1]; simp)
    rw [e_T_spec_l17Copy, h1, hf]; rfl
  · have h1 := filt_loop (L := L_impl_copyTable_1) t (fun acc i => ([], acc, t, (t.length : Int), i)) (fun acc => (([] : List GroupT), acc)) (fun _ => true) [] ht (fun n acc i y hy hi hacc => by
      simp only [List.length_nil] at hacc
      have hym := hm y (List.mem_of_getElem? hy)
      rw [e_L_impl_copyTable_1]
      simp only [decide_eq_true (show (i : Int) < (t.length : Int) by omega), cond_true, Int.natCast_nonneg, if_true, Int.toNat_natCast, hy, Option.bind_some, clone_ok hym, if_pos (show (acc.length + 1) * 40 ≤ 140737488355328 ∧ acc.length + 1 ≤ 9223372036854775807 by omega), List.append_eq, wrap_ok (n := (i : Int) + 1) (by omega) (by omega)])
      (fun n acc => by rw [e_L_impl_copyTable_1]; simp)
    rw [e_T_impl_copyTable, h1, hf]; rfl
theorem mapO_wd {e : ET} : ∀ l : List e.den, mapO (nw e) (l.map (wd e)) = some l
  | [] => rfl
  | x :: l => by
    have h : ∀ (e : ET) (x : e.den), nw e (wd e x) = some x := fun e => by
      induction e with
      | pair a b iha ihb => intro x; simp only [wd, nw, iha, ihb]
      | _ => intro x; rfl
    simp only [List.map_cons, mapO, h, mapO_wd l]
theorem set3 {α : Type} (W : List α) {i : Nat} (x y : α) (hi : i < W.length) : i < (W.set i x).length ∧ (W.set i x)[i]? = some x ∧ (W.set i x).set i y = W.set i y :=
  ⟨by rw [List.length_set]; exact hi, List.getElem?_set_self hi, List.set_set ..⟩
theorem join_w {t : List GroupT} {i : Nat} {k : List UInt8} {ms r : List (List UInt8)} (hx : t[i]? = some (k, ms)) :
    i < ((List.map (wd (ET.str.pair (ET.sl true ET.str))) t).set i (k, none)).length ∧ ((List.map (wd (ET.str.pair (ET.sl true ET.str))) t).set i (k, none))[i]? = some (k, none) ∧
      mapO (nw (ET.str.pair (ET.sl true ET.str))) (((List.map (wd (ET.str.pair (ET.sl true ET.str))) t).set i (k, none)).set i (k, some r)) = some (t.set i (k, r)) := by
  have hi : i < t.length := (List.getElem?_eq_some_iff.1 hx).1
  have hl : i < (List.map (wd (ET.str.pair (ET.sl true ET.str))) t).length := by rw [List.length_map]; exact hi
  have h3 := set3 (List.map (wd (ET.str.pair (ET.sl true ET.str))) t) (k, none) (k, some r) hl
  refine ⟨h3.1, h3.2.1, (congrArg (mapO (nw (ET.str.pair (ET.sl true ET.str)))) h3.2.2).trans ?_⟩
  have := mapO_wd (e := ET.str.pair (ET.sl true ET.str)) (t.set i (k, r))
  rw [List.map_set] at this
  exact this
theorem find_lt {L : List GroupT} {g : List UInt8} (h1 : ∀ x ∈ L, Op.bytesLess x.1 g = true) : L.find? (fun y => y.1 == g) = none :=
  List.find?_eq_none.2 fun x hx => by rw [show (x.1 == g) = false from beq_eq_false_iff_ne.2 (bl_ne (h1 x hx))]; decide
theorem find_gt {R : List GroupT} {g : List UInt8} (h1 : ∀ x ∈ R, Op.bytesLess g x.1 = true) : R.find? (fun y => y.1 == g) = none :=
  List.find?_eq_none.2 fun x hx => by rw [show (x.1 == g) = false from beq_eq_false_iff_ne.2 (Ne.symm (bl_ne (h1 x hx)))]; decide
theorem insT_pos (l : List (List UInt8)) (x : List UInt8) : 0 < (insT l x).length := by unfold insT; rw [List.length_append, List.length_cons]; omega
theorem setG_pos {t : List GroupT} {g : List UInt8} {ms : List (List UInt8)} (h : 0 < ms.length) : setG t g ms = loF Prod.fst g t ++ (g, ms) :: hiF Prod.fst g t := by
  unfold setG
  rw [decide_eq_true (by omega)]; rfl
theorem lo_app {α : Type} (f : α → List UInt8) (g : List UInt8) (a b : List α) : loF f g (a ++ b) = loF f g a ++ loF f g b := List.filter_append ..
theorem hi_app {α : Type} (f : α → List UInt8) (g : List UInt8) (a b : List α) : hiF f g (a ++ b) = hiF f g a ++ hiF f g b := List.filter_append ..
theorem setG_lo {t : List GroupT} {g : List UInt8} {ms : List (List UInt8)} (h : 0 < ms.length) : loF Prod.fst g (setG t g ms) = loF Prod.fst g t ∧ hiF Prod.fst g (setG t g ms) = hiF Prod.fst g t := by
  rw [setG_pos h]
  have h1 : ∀ x ∈ loF Prod.fst g t, Op.bytesLess x.1 g = true := fun x hx => lo_lt hx
  have h2 : ∀ x ∈ hiF Prod.fst g t, Op.bytesLess g x.1 = true := fun x hx => hi_gt hx
  refine ⟨lo_of h1 (fun x hx => ?_), hi_of' h1 rfl h2⟩
  rcases List.mem_cons.1 hx with rfl | hx
  · exact bl_irr g
  · exact bl_asym (h2 x hx)
theorem setG_set {t : List GroupT} {g : List UInt8} {ms ms' : List (List UInt8)} (h : 0 < ms.length) : setG (setG t g ms) g ms' = setG t g ms' := by
  have := setG_lo (t := t) (g := g) h
  show loF Prod.fst g (setG t g ms) ++ _ = loF Prod.fst g t ++ _
  rw [this.1, this.2]
theorem memG_set {t : List GroupT} {g : List UInt8} {ms : List (List UInt8)} (h : 0 < ms.length) : memG (setG t g ms) g = ms := by
  unfold memG
  rw [setG_pos h, List.find?_append, find_lt (fun x hx => lo_lt hx), List.find?_cons, beq_self_eq_true]; rfl
/-- A table as it goes through: ascending, and not too large. -/
def TabOk (c m : Nat) (t : List GroupT) : Prop := Srt Prod.fst t ∧ (∀ y ∈ t, Srt id y.2 ∧ y.2.length ≤ m) ∧ t.length ≤ c
theorem TabOk.set {c m : Nat} {t : List GroupT} {g : List UInt8} {ms : List (List UInt8)} (h : TabOk c m t) (h0 : 0 < ms.length) (h1 : Srt id ms) (h2 : ms.length ≤ m) : TabOk (c + 1) m (setG t g ms) := by
  obtain ⟨a, b, d⟩ := h
  rw [setG_pos h0]
  refine ⟨mid_srt a rfl, fun y hy => ?_, ?_⟩
  · rcases List.mem_append.1 hy with hy | hy
    · exact b y (List.mem_filter.1 hy).1
    · rcases List.mem_cons.1 hy with rfl | hy
      · exact ⟨h1, h2⟩
      · exact b y (List.mem_filter.1 hy).1
  · have := lohi_len Prod.fst g t
    rw [List.length_append, List.length_cons]; omega
theorem TabOk.mem {c m : Nat} {t : List GroupT} (h : TabOk c m t) (g : List UInt8) : Srt id (memG t g) ∧ (memG t g).length ≤ m := by
  unfold memG
  cases hf : t.find? (fun y => y.1 == g) with
  | none => exact ⟨List.Pairwise.nil, Nat.zero_le _⟩
  | some y => exact h.2.1 y (List.mem_of_find?_eq_some hf)
theorem TabOk.mono {c m c' m' : Nat} {t : List GroupT} (h : TabOk c m t) (hc : c ≤ c') (hm : m ≤ m') : TabOk c' m' t := ⟨h.1, fun y hy => ⟨(h.2.1 y hy).1, Nat.le_trans (h.2.1 y hy).2 hm⟩, Nat.le_trans h.2.2 hc⟩
end Xs
end Go.Proofs.YtainknkfjekngaaDoor
