/- What the reference's function answers, and the program's: the same. -/
import Derived.Test.YtainknkfjekngaaDoorXKpPd
namespace Go.Proofs.YtainknkfjekngaaDoor
open Go Vm
set_option linter.unusedVariables false
set_option linter.unusedSimpArgs false
namespace Xs
/-- A member of those daemons. -/
noncomputable def kpB (ds : List Int) (m : List UInt8) : Bool := match T_spec_SplitPrivate m with
  | some (d, _, v) => v && ds.any (fun y => y == d)
  | none => false
theorem x_Kp1 {ds : List Int} {g m : List UInt8} (hl : ds.length ≤ 1048576) (hm : m.length ≤ 1048576) : T___impl_Table__keep_1__impl_Keep_1 (m, ds, g, ()) = some (!kpB ds m) := by
  obtain ⟨d, n, v, h1, h2, _, _⟩ := x_SplitP hm
  rw [e_T___impl_Table__keep_1__impl_Keep_1, e_T_impl_Keep_1, h2]
  unfold kpB
  rw [h1]
  cases v with
  | false => rfl
  | true => simp only [Option.bind_some, cond_true, x_ContI d hl, Bool.true_and]
theorem x_DelK {ds : List Int} {g : List UInt8} {a : List (List UInt8)} (hl : ds.length ≤ 1048576) (ha : a.length ≤ 1048576) (hs : ∀ s ∈ a, s.length ≤ 1048576) :
    T_slices_DeleteFunc___string_string_____impl_Table__keep_1__impl_Keep_1 (a, ds, g, ()) = some (a.filter (kpB ds)) := by
  have hnn : (fun x => !(!kpB ds x)) = kpB ds := by funext x; exact Bool.not_not _
  have h := idx_loop (L := L_slices_IndexFunc___string_string_____impl_Table__keep_1__impl_Keep_1_1) a (fun x => !kpB ds x) (fun i => (a, (ds, g, ()), (a.length : Int), i)) () (by omega) (fun n i x hx hi => by
    rw [e_L_slices_IndexFunc___string_string_____impl_Table__keep_1__impl_Keep_1_1]
    simp only [decide_eq_true (show (i : Int) < (a.length : Int) by omega), cond_true, Int.natCast_nonneg, if_true, Int.toNat_natCast, hx, Option.bind_some, wrap_ok (n := (i : Int) + 1) (by omega) (by omega), x_Kp1 (g := g) hl (hs x (List.mem_of_getElem? hx))])
    (fun n => by rw [e_L_slices_IndexFunc___string_string_____impl_Table__keep_1__impl_Keep_1_1]; simp only [decide_eq_false (show ¬ (a.length : Int) < (a.length : Int) by omega), cond_false])
  rw [e_T_slices_DeleteFunc___string_string_____impl_Table__keep_1__impl_Keep_1, e_T_slices_IndexFunc___string_string_____impl_Table__keep_1__impl_Keep_1]
  rcases h with ⟨L0, x, R, h1, h2, h3, h4⟩ | ⟨h1, h2⟩
  · rw [h4]
    have hal : a.length = L0.length + (R.length + 1) := by rw [h1, List.length_append, List.length_cons]
    simp only [Option.bind_some, Sum.elim_inr, show ((L0.length : Int) == -1) = false from beq_eq_false_iff_ne.2 (by omega), cond_false, wrap_ok (n := (L0.length : Int) + 1) (by omega) (by omega)]
    obtain ⟨a', k, g1, g2, g3, _, g5, g6⟩ := del_loop (L := L_slices_DeleteFunc___string_string_____impl_Table__keep_1__impl_Keep_1_1) a (fun x => !kpB ds x) (fun a i j => (a, (ds, g, ()), i, j)) (fun a i => (a, i))
      (fun n a1 i j x k1 k2 k3 k4 k5 => by
        have hi : a1[i]? = some a1[i] := List.getElem?_eq_getElem (by omega)
        rw [e_L_slices_DeleteFunc___string_string_____impl_Table__keep_1__impl_Keep_1_1]
        simp only [decide_eq_true (show (j : Int) < (a1.length : Int) by omega), cond_true, Int.natCast_nonneg, if_true, Int.toNat_natCast, if_pos k5, k2, Option.bind_some, x_Kp1 (g := g) hl (hs x k3), if_pos (show i < a1.length by omega), hi]
        cases kpB ds x with
        | true => simp only [Bool.not_true, Bool.not_false, cond_true, cond_false, Option.bind_some, Sum.elim_inl, wrap_ok (n := (i : Int) + 1) (by omega) (by omega), wrap_ok (n := (j : Int) + 1) (by omega) (by omega)]
        | false => simp only [Bool.not_true, Bool.not_false, cond_true, cond_false, Option.bind_some, Sum.elim_inl, wrap_ok (n := (j : Int) + 1) (by omega) (by omega)])
      (fun n a1 i k1 => by rw [e_L_slices_DeleteFunc___string_string_____impl_Table__keep_1__impl_Keep_1_1]; simp only [decide_eq_false (show ¬ (a1.length : Int) < (a1.length : Int) by omega), cond_false])
      R (L0.length + 1) L0.length fuel a (by rw [h1, List.drop_append]; simp) (by omega) rfl (by omega) (fun y hy => by rw [h1]; simp [hy]) (by simp only [fuel]; omega)
    rw [show ((L0.length + 1 : Nat) : Int) = (L0.length : Int) + 1 by omega] at g1
    rw [g1]
    have hfl := List.length_filter_le (fun x => !(!kpB ds x)) R
    have hk : k < a'.length := by omega
    simp only [Option.bind_some, Sum.elim_inl, Int.toNat_natCast]
    rw [if_pos (show (0 : Int) ≤ (k : Int) ∧ (k : Int) ≤ (a'.length : Int) by omega), if_pos hk, if_pos (show k + (a'.length - k) = a'.length ∧ 0 < a'.length - k by omega), if_pos (by rw [List.length_append, List.length_take]; omega)]
    have hlt : (a'.take k).length = k := by rw [List.length_take]; omega
    have e1 : List.take k (List.take k a' ++ List.replicate (a'.length - k) ([] : List UInt8)) = a'.take k := by
      rw [List.take_append_of_le_length (by omega), List.take_of_length_le (by omega)]
    rw [e1, g5, h1, List.take_left, hnn, List.filter_append, List.filter_cons]
    have hx : kpB ds x = false := by simpa using h3
    rw [if_neg (by rw [hx]; decide), show L0.filter (kpB ds) = L0 from List.filter_eq_self.2 (fun y hy => by simpa using h2 y hy)]
  · rw [h2]
    simp only [Option.bind_some, Sum.elim_inl, show ((-1 : Int) == -1) = true from rfl, cond_true]
    rw [List.filter_eq_self.2 (fun y hy => by simpa using h1 y hy)]
/-- What stays of a table. -/
def keepT (p : List UInt8 → Bool) (t : List GroupT) : List GroupT := t.flatMap fun y => bif decide (0 < ((y.2.filter p).length : Int)) then [(y.1, y.2.filter p)] else []
theorem keepT_cons (p : List UInt8 → Bool) (y : GroupT) (t : List GroupT) : keepT p (y :: t) = (bif decide (0 < ((y.2.filter p).length : Int)) then [(y.1, y.2.filter p)] else []) ++ keepT p t := List.flatMap_cons ..
theorem keepT_app (p : List UInt8 → Bool) (a b : List GroupT) : keepT p (a ++ b) = keepT p a ++ keepT p b := List.flatMap_append ..
theorem keepT_len (p : List UInt8 → Bool) : ∀ t : List GroupT, (keepT p t).length ≤ t.length
  | [] => Nat.le_refl 0
  | y :: t => by
    have := keepT_len p t
    rw [keepT_cons, List.length_append, List.length_cons]
    cases decide (0 < ((y.2.filter p).length : Int)) <;> simp <;> omega
theorem keepT_mem {p : List UInt8 → Bool} {t : List GroupT} {z : GroupT} (h : z ∈ keepT p t) : ∃ y ∈ t, z.1 = y.1 ∧ z.2 = y.2.filter p := by
  obtain ⟨y, hy, hz⟩ := List.mem_flatMap.1 h
  refine ⟨y, hy, ?_⟩
  cases hd : decide (0 < ((y.2.filter p).length : Int)) with
  | true => rw [hd] at hz; simp at hz; subst hz; exact ⟨rfl, rfl⟩
  | false => rw [hd] at hz; simp at hz
theorem keepT_filter (p : List UInt8 → Bool) (c : List UInt8 → Bool) : ∀ t : List GroupT, keepT p (t.filter fun y => c y.1) = (keepT p t).filter fun y => c y.1
  | [] => rfl
  | y :: t => by
    rw [List.filter_cons, keepT_cons, List.filter_append, ← keepT_filter p c t]
    cases hc : c y.1 with
    | true =>
      rw [if_pos rfl, keepT_cons]
      cases decide (0 < ((y.2.filter p).length : Int)) with
      | true => simp [hc]
      | false => simp
    | false =>
      rw [if_neg (by decide)]
      cases decide (0 < ((y.2.filter p).length : Int)) with
      | true => simp [hc]
      | false => simp
def setF (p : List UInt8 → Bool) (out : List GroupT) (y : GroupT) : List GroupT := setG out y.1 (y.2.filter p)
theorem keepT_put (p : List UInt8 → Bool) (t : List GroupT) (y : GroupT) : keepT p (putG t y) = setF p (keepT p t) y := by
  unfold putG setF setG loF hiF
  rw [keepT_app, keepT_cons, keepT_filter p (fun s => Op.bytesLess s y.1) t, keepT_filter p (fun s => !(Op.bytesLess s y.1 || s == y.1)) t]
theorem keepT_fold (p : List UInt8 → Bool) : ∀ (l t : List GroupT), keepT p (l.foldl putG t) = l.foldl (setF p) (keepT p t)
  | [], _ => rfl
  | y :: l, t => by rw [List.foldl_cons, List.foldl_cons, keepT_fold p l, keepT_put]
def nin (l : List GroupT) (y : GroupT) : Bool := !(l.any fun z => z.1 == y.1)
theorem set_nin (p : List UInt8 → Bool) (l : List GroupT) (y : GroupT) (out out' : List GroupT) (h : out.filter (nin (y :: l)) = out'.filter (nin (y :: l))) : (setF p out y).filter (nin l) = (setF p out' y).filter (nin l) := by
  have hlo : ∀ out : List GroupT, (loF Prod.fst y.1 out).filter (nin l) = loF Prod.fst y.1 (out.filter (nin (y :: l))) := fun out => by
    unfold loF
    rw [List.filter_filter, List.filter_filter]
    refine List.filter_congr fun z _ => ?_
    cases hb : Op.bytesLess z.1 y.1 with
    | false => simp
    | true =>
      have := bl_ne hb
      unfold nin
      rw [List.any_cons, show (y.1 == z.1) = false from beq_eq_false_iff_ne.2 (Ne.symm this)]
      simp
  have hhi : ∀ out : List GroupT, (hiF Prod.fst y.1 out).filter (nin l) = hiF Prod.fst y.1 (out.filter (nin (y :: l))) := fun out => by
    unfold hiF
    rw [List.filter_filter, List.filter_filter]
    refine List.filter_congr fun z _ => ?_
    cases hz : z.1 == y.1 with
    | true => simp
    | false =>
      have := beq_eq_false_iff_ne.1 hz
      unfold nin
      rw [List.any_cons, show (y.1 == z.1) = false from beq_eq_false_iff_ne.2 (Ne.symm this)]
      cases Op.bytesLess z.1 y.1 <;> simp
  unfold setF setG
  rw [List.filter_append, List.filter_append, List.filter_append, List.filter_append, hlo, hhi, hlo, hhi, h]
theorem set_indep (p : List UInt8 → Bool) : ∀ (l out out' : List GroupT), out.filter (nin l) = out'.filter (nin l) → l.foldl (setF p) out = l.foldl (setF p) out'
  | [], out, out', h => by
    have e : ∀ o : List GroupT, o.filter (nin []) = o := fun o => List.filter_eq_self.2 fun _ _ => rfl
    rw [e, e] at h; exact h
  | y :: l, out, out', h => by
    rw [List.foldl_cons, List.foldl_cons]
    exact set_indep p l _ _ (set_nin p l y out out' h)
theorem set_self (p : List UInt8 → Bool) (t : List GroupT) : t.foldl (setF p) t = keepT p (t.foldl putG []) := by
  rw [keepT_fold]
  refine set_indep p t t [] ?_
  rw [List.filter_eq_nil_iff.2 (fun z hz => ?_)]; · rfl
  unfold nin
  rw [show (t.any fun w => w.1 == z.1) = true from List.any_eq_true.2 ⟨z, hz, beq_self_eq_true _⟩]; decide
theorem putF_mem : ∀ {l t : List GroupT} {z : GroupT}, z ∈ l.foldl putG t → z ∈ l ∨ z ∈ t
  | [], t, z, h => .inr h
  | y :: l, t, z, h => by
    rcases putF_mem (l := l) h with h | h
    · exact .inl (List.mem_cons_of_mem _ h)
    · unfold putG at h
      rcases List.mem_append.1 h with h | h
      · exact .inr (List.mem_filter.1 h).1
      · rcases List.mem_cons.1 h with rfl | h
        · exact .inl List.mem_cons_self
        · exact .inr (List.mem_filter.1 h).1
theorem setF_len (p : List UInt8 → Bool) (out : List GroupT) (y : GroupT) : (setF p out y).length ≤ out.length + 1 := by
  have := lohi_len Prod.fst y.1 out
  unfold setF setG
  rw [List.length_append, List.length_append]
  cases decide (0 < ((y.2.filter p).length : Int)) <;> simp <;> omega
theorem keep_fold (p : List UInt8 → Bool) : ∀ (l acc : List GroupT), l.foldl (fun acc y => bif decide (0 < ((y.2.filter p).length : Int)) then acc ++ [(y.1, y.2.filter p)] else acc) acc = acc ++ keepT p l
  | [], acc => by simp [keepT]
  | y :: l, acc => by
    rw [List.foldl_cons, keep_fold p l, keepT_cons]
    cases decide (0 < ((y.2.filter p).length : Int)) <;> simp
/-- The sizes that the program's functions can bear. -/
def TabS (t : List GroupT) : Prop := t.length ≤ 1048576 ∧ ∀ y ∈ t, y.2.length ≤ 1048576 ∧ ∀ s ∈ y.2, s.length ≤ 1048576
theorem x_keepK {ds : List Int} {t : List GroupT} (hl : ds.length ≤ 1048576) (ht : TabS t) : T___impl_Table__keep__impl_Keep_1 (t, ds) = some (keepT (kpB ds) t) := by
  obtain ⟨ht1, ht2⟩ := ht
  have h := take_loop (L := L___impl_Table__keep__impl_Keep_1_1) t (fun acc c i => ((), ds, acc, c, (t.length : Int), i)) (fun acc => ((), acc)) (fun acc y => bif decide (0 < ((y.2.filter (kpB ds)).length : Int)) then acc ++ [(y.1, y.2.filter (kpB ds))] else acc) (fun i acc => acc.length ≤ i) [] (Nat.le_refl 0) (by omega)
    (fun i acc y _ _ h => by
      show (bif decide (0 < ((y.2.filter (kpB ds)).length : Int)) then acc ++ [(y.1, y.2.filter (kpB ds))] else acc).length ≤ i + 1
      cases decide (0 < ((y.2.filter (kpB ds)).length : Int)) <;> simp <;> omega)
    (fun n acc c i y hc hi hy hx hI => by
      have hym := ht2 y hy
      rw [e_L___impl_Table__keep__impl_Keep_1_1]
      simp only [decide_eq_true (show (i : Int) < (t.length : Int) by omega), cond_true, Int.natCast_nonneg, if_true, Int.toNat_natCast, if_pos (show i < c.length by omega), hx, Option.bind_some, Option.elim_some, x_DelK (g := y.1) hl hym.1 hym.2]
      cases decide (0 < ((y.2.filter (kpB ds)).length : Int)) with
      | true => simp only [cond_true, if_pos (show (acc.length + 1) * 40 ≤ 140737488355328 ∧ acc.length + 1 ≤ 9223372036854775807 by omega), Option.bind_some, Sum.elim_inl, List.append_eq, wrap_ok (n := (i : Int) + 1) (by omega) (by omega)]
      | false => simp only [cond_false, Option.bind_some, Sum.elim_inl, wrap_ok (n := (i : Int) + 1) (by omega) (by omega)])
    (fun n acc c hc => by rw [e_L___impl_Table__keep__impl_Keep_1_1]; simp only [decide_eq_false (show ¬ (t.length : Int) < (t.length : Int) by omega), cond_false])
  rw [e_T___impl_Table__keep__impl_Keep_1]
  rw [h.1, keep_fold]; rfl
theorem x_KeepI {ds : List Int} {t : List GroupT} (hl : ds.length ≤ 1048576) (ht : TabS t) : T_impl_Keep (t, ds) = some (keepT (kpB ds) (t.foldl putG [])) := by
  have hcp := (x_copyS (t := t) (by have := ht.1; omega) (fun y hy => (ht.2 y hy).1)).2
  obtain ⟨ht1, ht2⟩ := ht
  have h := take_loop (L := L_impl_Keep_1) t (fun acc c i => (ds, ([] : List GroupT), acc, c, (t.length : Int), i)) (fun acc => (ds, ([] : List GroupT), acc)) putG (fun i acc => acc.length ≤ i ∧ Srt Prod.fst acc ∧ ∀ y ∈ acc, y ∈ t) [] ⟨Nat.le_refl 0, List.Pairwise.nil, by simp⟩ (by omega)
    (fun i acc y hy _ h => by
      have h1 := putG_len acc y
      refine ⟨by have := h.1; omega, putG_srt h.2.1 y, fun z hz => ?_⟩
      rcases putF_mem (l := [y]) (t := acc) hz with hz | hz
      · rw [List.mem_singleton.1 hz]; exact hy
      · exact h.2.2 z hz)
    (fun n acc c i y hc hi hy hx hI => by
      rw [e_L_impl_Keep_1]
      simp only [decide_eq_true (show (i : Int) < (t.length : Int) by omega), cond_true, Int.natCast_nonneg, if_true, Int.toNat_natCast, if_pos (show i < c.length by omega), hx, Option.bind_some, Option.elim_some, x_put y.1 y.2 (show acc.length ≤ 4194304 by have := hI.1; omega) hI.2.1, wrap_ok (n := (i : Int) + 1) (by omega) (by omega)])
    (fun n acc c hc => by rw [e_L_impl_Keep_1]; simp only [decide_eq_false (show ¬ (t.length : Int) < (t.length : Int) by omega), cond_false])
  rw [e_T_impl_Keep, hcp]
  simp only [Option.bind_some]
  rw [h.1]
  simp only [Option.bind_some, Sum.elim_inl]
  rw [x_keepK hl ⟨by have := h.2.1; omega, fun y hy => ht2 y (h.2.2.2 y hy)⟩]; rfl
theorem x_KeepS {ds : List Int} {t : List GroupT} (hl : ds.length ≤ 1048576) (ht : TabS t) : T_spec_Keep (t, ds) = some (keepT (kpB ds) (t.foldl putG [])) := by
  have hcp := (x_copyS (t := t) (by have := ht.1; omega) (fun y hy => (ht.2 y hy).1)).1
  have ht' := ht
  obtain ⟨ht1, ht2⟩ := ht
  have hin : ∀ (k : Nat) (y : GroupT) (out : List GroupT), t[k]? = some y → L_spec_Keep_1 fuel (ds, t, ([] : List GroupT), out, (k : Int), [], 0) = some (.inl (ds, t, [], out, (k : Int), y.2.filter (kpB ds))) := fun k y out hy => by
    have hym := ht2 y (List.mem_of_getElem? hy)
    have h := filt_loop (L := L_spec_Keep_1) y.2 (fun acc i => (ds, t, ([] : List GroupT), out, (k : Int), acc, i)) (fun acc => (ds, t, ([] : List GroupT), out, (k : Int), acc)) (kpB ds) [] (by omega) (fun n acc i z hz hi hacc => by
      simp only [List.length_nil] at hacc
      obtain ⟨d, nm, v, h1, h2, _, _⟩ := x_SplitP (hym.2 z (List.mem_of_getElem? hz))
      rw [e_L_spec_Keep_1]
      simp only [Int.natCast_nonneg, if_true, Int.toNat_natCast, hy, Option.bind_some, decide_eq_true (show (i : Int) < (y.2.length : Int) by omega), cond_true, hz, h1]
      unfold kpB
      rw [h1]
      cases v with
      | false => simp only [cond_false, Option.bind_some, Sum.elim_inl, Bool.false_and, wrap_ok (n := (i : Int) + 1) (by omega) (by omega)]
      | true =>
        simp only [cond_true, x_l05In d hl, Option.bind_some, Sum.elim_inl, Bool.true_and]
        cases ds.any (fun y => y == d) with
        | false => simp only [cond_false, Option.bind_some, Sum.elim_inl, wrap_ok (n := (i : Int) + 1) (by omega) (by omega)]
        | true => simp only [cond_true, Int.natCast_nonneg, if_true, Int.toNat_natCast, hy, hz, Option.bind_some, Sum.elim_inl, if_pos (show (acc.length + 1) * 16 ≤ 140737488355328 ∧ acc.length + 1 ≤ 9223372036854775807 by omega), List.append_eq, wrap_ok (n := (i : Int) + 1) (by omega) (by omega)])
      (fun n acc => by
        rw [e_L_spec_Keep_1]
        simp only [Int.natCast_nonneg, if_true, Int.toNat_natCast, hy, Option.bind_some, decide_eq_false (show ¬ (y.2.length : Int) < (y.2.length : Int) by omega), cond_false])
    exact h
  have hout : ∀ (s : List GroupT) (k n : Nat) (out : List GroupT), t.drop k = s → k + s.length = t.length → out.length + s.length ≤ 4194304 → s.length < n → L_spec_Keep_2 n (ds, t, ([] : List GroupT), out, (k : Int)) = some (.inl ([], s.foldl (setF (kpB ds)) out)) := by
    intro s
    induction s with
    | nil =>
      intro k n out h1 h2 h3 h6
      obtain ⟨n, rfl⟩ : ∃ m, n = m + 1 := ⟨n - 1, by simp at h6; omega⟩
      simp only [List.length_nil, Nat.add_zero] at h2
      rw [e_L_spec_Keep_2]
      simp only [decide_eq_false (show ¬ (k : Int) < (t.length : Int) by omega), cond_false, List.foldl_nil]
    | cons y s ih =>
      intro k n out h1 h2 h3 h6
      simp only [List.length_cons] at h2 h3 h6
      obtain ⟨n, rfl⟩ : ∃ m, n = m + 1 := ⟨n - 1, by omega⟩
      have hx : t[k]? = some y := by
        have := congrArg (fun l => l[0]?) h1
        simpa using this
      have t3 : t.drop (k + 1) = s := by rw [← List.drop_drop, h1]; rfl
      have hsl := setF_len (kpB ds) out y
      have := ih (k + 1) n (setF (kpB ds) out y) t3 (by omega) (by omega) (by omega)
      rw [show ((k + 1 : Nat) : Int) = (k : Int) + 1 by omega] at this
      rw [e_L_spec_Keep_2]
      simp only [decide_eq_true (show (k : Int) < (t.length : Int) by omega), cond_true, hin k y out hx, Option.bind_some, Sum.elim_inl, Int.natCast_nonneg, if_true, Int.toNat_natCast, hx, x_l17Set y.1 (y.2.filter (kpB ds)) (show out.length ≤ 4194304 by omega), wrap_ok (n := (k : Int) + 1) (by omega) (by omega), List.foldl_cons]
      exact this
  have hf := hout t 0 fuel t rfl (by omega) (by omega) (by simp only [fuel]; omega)
  rw [show ((0 : Nat) : Int) = 0 from rfl] at hf
  have hlen : (t.foldl (setF (kpB ds)) t).length ≤ 4194304 := by
    have : ∀ (l o : List GroupT), (l.foldl (setF (kpB ds)) o).length ≤ o.length + l.length := by
      intro l
      induction l with
      | nil => intro o; exact Nat.le_refl _
      | cons y l ih => intro o; have := ih (setF (kpB ds) o y); have := setF_len (kpB ds) o y; rw [List.foldl_cons, List.length_cons]; omega
    have := this t t
    omega
  rw [e_T_spec_Keep, hcp]
  simp only [Option.bind_some, hf, Sum.elim_inl]
  have hs := set_self (kpB ds) t
  rw [hs] at hlen ⊢
  rw [(x_copyS hlen (fun y hy => by
    obtain ⟨z, hz, _, e2⟩ := keepT_mem hy
    have hz' := (putF_mem hz).resolve_right (by simp)
    have h1 := (ht2 z hz').1
    have h2 := List.length_filter_le (kpB ds) z.2
    rw [e2]; omega)).1]; rfl
end Xs
end Go.Proofs.YtainknkfjekngaaDoor
