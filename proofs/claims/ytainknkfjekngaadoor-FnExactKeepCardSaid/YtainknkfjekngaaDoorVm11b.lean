/- Statements whose order is open: any order that the edges allow comes to the text's own. -/
import Derived.Test.YtainknkfjekngaaDoorVm11
import Derived.Orders
namespace Go.Proofs.YtainknkfjekngaaDoor.Vm
open Go
set_option linter.unusedVariables false
set_option linter.unusedSimpArgs false

def Cell.upd (c : Cell) (u : Upd) : Cell := match u.put with
  | .pu => ⟨u.v, c.ver + 1, c.hv + 1⟩
  | .mo => ⟨u.v, c.ver, c.hv + 1⟩
  | .qu => ⟨u.v, c.ver, c.hv⟩
theorem upd_at (st : St) (u : Upd) (t : Nat) : (st.upd u) t = if u.t = t then (st t).upd u else st t := by
  obtain ⟨r, k, v⟩ := u
  unfold St.upd Cell.upd
  by_cases h : r = t
  · subst h
    rw [if_pos rfl]
    cases k <;> simp [St.put, St.mod, St.tk]
  · rw [if_neg h]
    cases k <;> simp [St.put, St.mod, St.tk, Ne.symm h]
theorem upds_at : ∀ (us : List Upd) (st : St) (t : Nat), (st.upds us) t = (us.filter fun u => decide (u.t = t)).foldl Cell.upd (st t)
  | [], _, _ => rfl
  | u :: us, st, t => by
    simp only [St.upds]
    rw [upds_at us, upd_at]
    by_cases h : u.t = t
    · rw [if_pos h, List.filter_cons_of_pos (by simpa using h)]; rfl
    · rw [if_neg h, List.filter_cons_of_neg (by simpa using h)]

theorem fm_congr {α β : Type} {l : List α} {f g : α → List β} (h : ∀ x, x ∈ l → f x = g x) : l.flatMap f = l.flatMap g := by
  induction l with
  | nil => rfl
  | cons x l ih => rw [List.flatMap_cons, List.flatMap_cons, h x (by simp), ih (fun y hy => h y (by simp [hy]))]

/-- What the operations of a set do, in the order of the text. -/
def selU (n : Nat) (us : Nat → List Upd) (L : Nat → Bool) : List Upd := (List.range n).flatMap fun j => if L j = true then us j else []
theorem sel_filter (n : Nat) (us : Nat → List Upd) (L : Nat → Bool) (t : Nat) :
    (selU n us L).filter (fun u => decide (u.t = t)) = (List.range n).flatMap fun j => if L j = true then (us j).filter (fun u => decide (u.t = t)) else [] := by
  unfold selU
  rw [List.filter_flatMap]
  congr 1
  funext j
  split <;> simp

section
variable {P : Program} {N : Nat}

/-- One operation of a region, met in a frame. -/
def OTg (P : Program) (N : Nat) (ops : Array Oper) (i : Nat) (st : St) (us : List Upd) : Prop :=
  ∀ (B : Base P) (a : Act) (w : World) (S : CS) (fp : Nat → CS) (K : Act → World → Prop) (Q : Exit → Act → World → Prop), Rl B N st a w S fp →
    (∀ a' w' S' fp', Rl B N (st.upds us) a' w' S' fp' → K a' w') → wpOp P ops Q i K a w

structure Order (P : Program) (N : Nat) (ops : Array Oper) (st0 : St) (us : Nat → List Upd) (ft : Nat → Nat → Prop) (anc : Nat → Nat → Prop) : Prop where
  op : ∀ i, i < ops.size → ∀ L : Nat → Bool, (∀ k, anc k i → L k = true) → (∀ k, anc i k → k < ops.size → L k = false) → L i = false → ∀ st2 : St, (∀ t, ft i t → st2 t = (st0.upds (selU ops.size us L)) t) → OTg P N ops i st2 (us i)
  wr : ∀ i u, i < ops.size → u ∈ us i → ft i u.t
  ww : ∀ i j t, i < ops.size → j < ops.size → i ≠ j → ¬ anc i j → ¬ anc j i → (∃ u ∈ us i, u.t = t) → ¬ ∃ u ∈ us j, u.t = t
  lt : ∀ i j, anc i j → i < j
  edge : ∀ (i : Nat) (o : Oper), ops[i]? = some o → ∀ e ∈ o.after.toList, Region.binds .any e = true → e.on < i
  clo : ∀ L : Nat → Bool, (∀ (i : Nat) (o : Oper), ops[i]? = some o → L i = true → ∀ e ∈ o.after.toList, Region.binds .any e = true → L e.on = true) →
    ∀ (i : Nat) (o : Oper), ops[i]? = some o → (∀ e ∈ o.after.toList, Region.binds .any e = true → L e.on = true) → ∀ k, anc k i → L k = true

theorem mem_ready {ops : Array Oper} {listed : Array Bool} {i : Nat} : i ∈ Region.ready .any ops listed ↔ i < ops.size ∧ listed.getD i true = false ∧ ∃ o, ops[i]? = some o ∧ ∀ e ∈ o.after.toList, Region.binds .any e = true → listed.getD e.on false = true := by
  unfold Region.ready
  simp only [List.mem_filter, List.mem_range, Bool.and_eq_true, Bool.not_eq_true']
  refine and_congr_right fun hi => and_congr_right fun hl => ?_
  rw [Array.getElem?_eq_getElem hi]
  simp only [Option.map_some, Option.getD_some, Array.all_eq_true, Bool.or_eq_true, Bool.not_eq_true']
  constructor
  · intro h
    refine ⟨_, rfl, fun e he hb => ?_⟩
    obtain ⟨k, hk, rfl⟩ := List.mem_iff_getElem.1 he
    have := h k (by simpa using hk)
    rcases this with h1 | h1
    · simp at h1 hb; rw [h1] at hb; cases hb
    · simpa using h1
  · rintro ⟨o, ho, h⟩ k hk
    obtain rfl := Option.some.inj ho
    by_cases hb : Region.binds .any (ops[i].after[k]) = true
    · exact .inr (h _ (by simp) hb)
    · exact .inl (by simpa using hb)

theorem Order.agree {ops : Array Oper} {st0 : St} {us : Nat → List Upd} {ft anc : Nat → Nat → Prop} (hO : Order P N ops st0 us ft anc) {L : Nat → Bool} (hL : ∀ (i : Nat) (o : Oper), ops[i]? = some o → L i = true → ∀ e ∈ o.after.toList, Region.binds .any e = true → L e.on = true)
    {i : Nat} {o : Oper} (hi : ops[i]? = some o) (hn : L i = false) (hp : ∀ e ∈ o.after.toList, Region.binds .any e = true → L e.on = true) {j t : Nat} (hj : j < ops.size) (hji : j ≠ i) (ht : ∃ u ∈ us i, u.t = t) (hw : ∃ u ∈ us j, u.t = t) : L j = decide (j < i) := by
  have hlt : i < ops.size := (Array.getElem?_eq_some_iff.1 hi).1
  have hdep : anc i j ∨ anc j i := by
    refine Classical.byContradiction fun h => ?_
    have h1 : ¬ anc i j := fun h' => h (.inl h')
    have h2 : ¬ anc j i := fun h' => h (.inr h')
    exact hO.ww j i t hj hlt hji h2 h1 hw ht
  rcases hdep with h | h
  · have h1 := hO.lt _ _ h
    rw [decide_eq_false (by omega)]
    cases hl : L j with
    | false => rfl
    | true =>
      have := hO.clo L hL j _ (Array.getElem?_eq_getElem hj) (hL j _ (Array.getElem?_eq_getElem hj) hl) i h
      rw [hn] at this; cases this
  · have h1 := hO.lt _ _ h
    rw [decide_eq_true (by omega)]
    exact hO.clo L hL i o hi hp j h

theorem Order.any {ops : Array Oper} {st0 : St} {us : Nat → List Upd} {ft anc : Nat → Nat → Prop} (hO : Order P N ops st0 us ft anc) {B : Base P} {Q : Exit → Act → World → Prop}
    (hQ : ∀ a w S fp, Rl B N (st0.upds (selU ops.size us fun _ => true)) a w S fp → Q .normal a w) :
    ∀ (fuel : Nat) (listed : Array Bool) (a : Act) (w : World) (S : CS) (fp : Nat → CS), listed.size = ops.size →
      (∀ (i : Nat) (o : Oper), ops[i]? = some o → listed.getD i false = true → ∀ e ∈ o.after.toList, Region.binds .any e = true → listed.getD e.on false = true) →
      (List.range ops.size).countP (fun i => !listed.getD i true) ≤ fuel →
      Rl B N (st0.upds (selU ops.size us fun j => listed.getD j false)) a w S fp → wpAny P .any ops Q fuel listed a w := by
  have hdone : ∀ (listed : Array Bool) (a : Act) (w : World) (S : CS) (fp : Nat → CS), listed.size = ops.size → Region.ready .any ops listed = [] → Rl B N (st0.upds (selU ops.size us fun j => listed.getD j false)) a w S fp → Q .normal a w := by
    intro listed a w S fp hs hr hR
    have hall : ∀ i, i < ops.size → listed.getD i false = true := by
      intro i
      induction i using Nat.strongRecOn with
      | _ i ih =>
        intro hi
        cases hb : listed.getD i false with
        | true => rfl
        | false =>
          exfalso
          have hm : i ∈ Region.ready .any ops listed := by
            rw [mem_ready]
            refine ⟨hi, ?_, ops[i], Array.getElem?_eq_getElem hi, fun e he hbd => ?_⟩
            · simp only [Array.getD, hs, hi, dif_pos] at hb ⊢; exact hb
            · have h1 := hO.edge i _ (Array.getElem?_eq_getElem hi) e he hbd
              exact ih _ h1 (by omega)
          rw [hr] at hm; cases hm
    refine hQ a w S fp ?_
    have : selU ops.size us (fun j => listed.getD j false) = selU ops.size us (fun _ => true) := by
      unfold selU
      apply fm_congr
      intro j hj
      simp only [hall j (List.mem_range.1 hj)]
    rw [this] at hR; exact hR
  intro fuel
  induction fuel with
  | zero =>
    intro listed a w S fp hs hc hn hR
    have hr : Region.ready .any ops listed = [] := by
      rw [List.eq_nil_iff_forall_not_mem]
      intro i hi
      obtain ⟨h1, h2, _⟩ := mem_ready.1 hi
      have := List.countP_eq_zero.1 (Nat.le_zero.1 hn) i (List.mem_range.2 h1)
      simp [h2] at this
    exact ⟨hr, hdone listed a w S fp hs hr hR⟩
  | succ fuel ih =>
    intro listed a w S fp hs hc hn hR
    refine ⟨fun hr => hdone listed a w S fp hs hr hR, fun i hi => ?_⟩
    obtain ⟨hlt, hni, o, ho, hp⟩ := mem_ready.1 hi
    have hni' : listed.getD i false = false := by
      simp only [Array.getD, hs, hlt, dif_pos] at hni ⊢; exact hni
    have hag : ∀ {j t : Nat}, j < ops.size → j ≠ i → (∃ u ∈ us i, u.t = t) → (∃ u ∈ us j, u.t = t) → listed.getD j false = decide (j < i) := fun hj hji ht hw =>
      hO.agree (L := fun j => listed.getD j false) hc ho hni' hp hj hji ht hw
    have hemp : ∀ (j t : Nat), ¬ (∃ u ∈ us j, u.t = t) → (us j).filter (fun u => decide (u.t = t)) = [] := fun j t h => by
      rw [List.filter_eq_nil_iff]
      intro u hu he
      exact h ⟨u, hu, by simpa using he⟩
    refine hO.op i hlt (fun j => listed.getD j false) (fun k hk => hO.clo (fun j => listed.getD j false) hc i o ho hp k hk) (fun k hk hks => ?_) hni' _ (fun t ht => rfl) B a w S fp _ Q hR (fun a' w' S' fp' hR' => ?_)
    · show listed.getD k false = false
      cases hl : listed.getD k false with
      | false => rfl
      | true =>
        have := hO.clo (fun j => listed.getD j false) hc k _ (Array.getElem?_eq_getElem hks) (hc k _ (Array.getElem?_eq_getElem hks) hl) i hk
        rw [hni'] at this; cases this
    · have hset : ∀ j, (listed.setIfInBounds i true).getD j false = if j = i then true else listed.getD j false := by
        intro j
        by_cases hji : j = i
        · subst hji
          simp [Array.getD, hs, hlt]
        · rw [if_neg hji]
          simp only [Array.getD, Array.size_setIfInBounds]
          split
          · exact Array.getElem_setIfInBounds_ne (by simpa using ‹_›) (Ne.symm hji)
          · rfl
      have hst : (st0.upds (selU ops.size us fun j => listed.getD j false)).upds (us i) = st0.upds (selU ops.size us fun j => (listed.setIfInBounds i true).getD j false) := by
        rw [← upds_append]
        funext t
        rw [upds_at, upds_at, List.filter_append, sel_filter, sel_filter]
        congr 1
        have hsplit : List.range ops.size = List.range i ++ (i :: (List.range' (i + 1) (ops.size - (i + 1)))) := by
          rw [List.range_eq_range', List.range_eq_range', show i :: List.range' (i + 1) (ops.size - (i + 1)) = List.range' i (ops.size - i) from by
            rw [show ops.size - i = (ops.size - (i + 1)) + 1 by omega, List.range'_succ]]
          rw [show List.range' i (ops.size - i) = List.range' (0 + 1 * i) (ops.size - i) by simp, List.range'_append]
          congr 1; omega
        by_cases hw : ∃ u ∈ us i, u.t = t
        · rw [hsplit]
          simp only [List.flatMap_append, List.flatMap_cons]
          have e1 : (List.range i).flatMap (fun j => if listed.getD j false = true then (us j).filter (fun u => decide (u.t = t)) else []) = (List.range i).flatMap (fun j => if (listed.setIfInBounds i true).getD j false = true then (us j).filter (fun u => decide (u.t = t)) else []) := by
            apply fm_congr
            intro j hj
            have := List.mem_range.1 hj
            simp only [hset, if_neg (show ¬ j = i by omega)]
          have e2 : ∀ L : Nat → Bool, (∀ j, j ≠ i → L j = listed.getD j false) → (List.range' (i + 1) (ops.size - (i + 1))).flatMap (fun j => if L j = true then (us j).filter (fun u => decide (u.t = t)) else []) = [] := by
            intro L hL
            rw [List.flatMap_eq_nil_iff]
            intro j hj
            have hj' := List.mem_range'_1.1 hj
            by_cases hwj : ∃ u ∈ us j, u.t = t
            · simp only [hL j (by omega), hag (j := j) (by omega) (by omega) hw hwj, decide_eq_false (show ¬ j < i by omega)]; rfl
            · rw [hemp j t hwj]; simp
          rw [e2 (fun j => listed.getD j false) (fun _ _ => rfl), e2 (fun j => (listed.setIfInBounds i true).getD j false) (fun j hj => by rw [hset, if_neg hj]), e1, hset, if_pos rfl, hni']
          simp
        · rw [hemp i t hw, List.append_nil]
          apply fm_congr
          intro j hj
          by_cases hji : j = i
          · subst hji; rw [hemp j t hw]; simp
          · simp only [hset, if_neg hji]
      rw [hst] at hR'
      refine ih _ a' w' S' fp' (by simpa using hs) (fun j o' ho' hj e he hb => ?_) ?_ hR'
      · rw [hset] at hj ⊢
        split
        · rfl
        · by_cases hji : j = i
          · subst hji
            rw [ho] at ho'
            obtain rfl := Option.some.inj ho'
            exact hp e he hb
          · rw [if_neg hji] at hj
            exact hc j o' ho' hj e he hb
      · have hlt2 : (List.range ops.size).countP (fun j => !(listed.setIfInBounds i true).getD j true) < (List.range ops.size).countP (fun j => !listed.getD j true) := by
          have hsetT : ∀ j, (listed.setIfInBounds i true).getD j true = if j = i then true else listed.getD j true := by
            intro j
            by_cases hji : j = i
            · subst hji
              simp [Array.getD, hs, hlt]
            · rw [if_neg hji]
              simp only [Array.getD, Array.size_setIfInBounds]
              split
              · exact Array.getElem_setIfInBounds_ne (by simpa using ‹_›) (Ne.symm hji)
              · rfl
          have key : ∀ l : List Nat, i ∈ l → l.countP (fun j => !(listed.setIfInBounds i true).getD j true) < l.countP (fun j => !listed.getD j true) := by
            intro l
            have mono : ∀ l : List Nat, l.countP (fun j => !(listed.setIfInBounds i true).getD j true) ≤ l.countP (fun j => !listed.getD j true) := fun l => List.countP_mono_left (fun j _ h => by
              rw [hsetT] at h
              split at h
              · simp at h
              · exact h)
            induction l with
            | nil => intro h; cases h
            | cons j l ihl =>
              intro h
              rw [List.countP_cons, List.countP_cons]
              by_cases hji : j = i
              · subst hji
                have := mono l
                rw [hsetT, if_pos rfl, hni]
                simp only [Bool.not_true, Bool.not_false, Bool.false_eq_true, if_false, if_true]; omega
              · have := ihl (by rcases List.mem_cons.1 h with h | h; exact absurd h.symm hji; exact h)
                rw [hsetT, if_neg hji]
                omega
          exact key _ (List.mem_range.2 hlt)
        omega
end
end Go.Proofs.YtainknkfjekngaaDoor.Vm
