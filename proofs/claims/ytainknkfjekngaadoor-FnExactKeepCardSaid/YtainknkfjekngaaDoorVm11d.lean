/- Operations with their guards, met one by one; code that may leave its order open; forgetting. -/
import Derived.Test.YtainknkfjekngaaDoorVm11c
namespace Go.Proofs.YtainknkfjekngaaDoor.Vm
open Go
set_option linter.unusedVariables false
set_option linter.unusedSimpArgs false

section
variable {P : Program} {N : Nat}

theorem mG_op {ops : Array Oper} {i : Nat} {md : Md} {o : Oper} {x : XG} {st : St} {us : List Upd} (ho : ops[i]? = some o) (hx : mG P N ops md o = some x) (h : xg P x st fun st' => st' = st.upds us) : OTg P N ops i st us := by
  intro B a w S fp K Q hr hk
  unfold wpOp
  rw [ho]
  simp only
  have run : ∀ y, mOp P N md o = some y → stepX P y st (fun st' => st' = st.upds us) → (o.wp P a w K Q ∨ (o.asks P a w ∧ LetsOut Q)) := fun y hy h => .inl (mOp_sound hy h B a w S fp _ Q hr (fun st' a' w' S' fp' k hr' => hk a' w' S' fp' (by rw [← k]; exact hr')))
  unfold mG at hx
  split at hx
  · rename_i y hy
    split at hx
    · rename_i hg
      obtain rfl := Option.some.inj hx
      rw [if_pos (by simp [Region.wanted, hg])]
      exact run _ hy h
    · rename_i j want hg
      split at hx
      · rename_i t ht
        split at hx
        · rename_i htN
          obtain rfl := Option.some.inj hx
          simp only [xg, guardX] at h
          have skip : (match o.dst with | some d => st.put d (.lit undef) | none => st) = st.upds us → K (a.put o.dst undef) w := by
            intro h2
            cases hd : o.dst with
            | none => rw [hd] at h2; exact hk _ _ _ _ (by rw [← h2]; exact hr)
            | some d =>
              rw [hd] at h2
              exact hk _ _ _ _ (by rw [← h2]; exact hr.put d (.lit undef) undef CS.none (htN.2 d hd) rfl (fun _ _ => CS.none_dj _) (CS.none_dj _) (fun _ _ h => h.elim) (fun _ _ h => h.elim))
          split at h
          · rename_i b hb
            have hyi := yielded_lit hr ht htN.1 hb
            by_cases hw : b = want
            · rw [if_pos (by simp [Region.wanted, hg, hyi, hw])]
              exact run _ hy (h.1 hw)
            · rw [if_neg (by simp [Region.wanted, hg, hyi, hw])]
              exact skip (h.2 hw)
          · rename_i v hv hnb
            have hyi := yielded_lit hr ht htN.1 hnb
            have hyn : yielded ops a.tmps j = none := by
              rw [hyi]
              cases v <;> first | rfl | exact absurd rfl (hv _)
            rw [if_neg (by simp [Region.wanted, hg, hyn])]
            exact skip h
          · exact h.elim
        · cases hx
      · cases hx
  · cases hx

theorem mL_at {ops : Array Oper} {an : Ann} {r : Nat} : ∀ {l : List Oper} {i : Nat} {xl : List XG}, mL P N ops an r i l = some xl → xl.length = l.length ∧ ∀ j o, l[j]? = some o → ∃ x, xl[j]? = some x ∧ mG P N ops (an.get r (i + j)) o = some x
  | [], i, xl, h => by simp only [mL, Option.some.injEq] at h; subst h; simp
  | o :: l, i, xl, h => by
    simp only [mL] at h
    split at h <;> try (cases h; done)
    rename_i x xs h1 h2
    cases h
    obtain ⟨h3, h4⟩ := mL_at h2
    refine ⟨by simp [h3], fun j o' hj => ?_⟩
    cases j with
    | zero => simp at hj; subst hj; exact ⟨x, rfl, h1⟩
    | succ j =>
      obtain ⟨y, h5, h6⟩ := h4 j o' (by simpa using hj)
      exact ⟨y, by simpa using h5, by rw [show i + (j + 1) = i + 1 + j by omega]; exact h6⟩

/-- The code, its regions with their edges where their order is open. -/
inductive XD where
  | skip
  | reg (es : Option (List (List Nat))) (ops : List XG)
  | seq (a b : XD)
  | cond (c : XO) (a b : XD)
  | block (id : Nat) (b : XD)
  | loop (b : XD)
  | exit (id : Nat)
  | ret
def edgesOf (ops : Array Oper) : List (List Nat) := ops.toList.map fun o => (o.after.toList.filter (Region.binds .any)).map (·.on)
def mD (P : Program) (N : Nat) (an : Ann) : Code → Option XD
  | .skip => some .skip
  | .region id ops draw => (mL P N ops an id 0 ops.toList).map (.reg (if draw then some (edgesOf ops) else none))
  | .seq a b => match mD P N an a, mD P N an b with
    | some a, some b => some (.seq a b)
    | _, _ => none
  | .cond c a b => match cO 0 c, mD P N an a, mD P N an b with
    | some c, some a, some b => some (.cond c a b)
    | _, _, _ => none
  | .block id b => (mD P N an b).map (.block id)
  | .loop b => (mD P N an b).map .loop
  | .exit id => some (.exit id)
  | .ret => some .ret
  | _ => none

/-- Forgetting: what a frame's places hold is kept or left; no name goes on. -/
theorem Rl.norm {B : Base P} {st st' : St} {a : Act} {w : World} {S : CS} {fp : Nat → CS} (h : Rl B N st a w S fp) (hv : ∀ i, (st' i).v = .hole ∨ ((st' i).v = (st i).v ∧ (st i).v.na = true)) (hk : ∀ i, (st' i).ver = 0 → (st i).ver = 0) : Rl B N st' a w S fp := by
  refine ⟨h.size, h.defers, h.dj, h.djS, h.lt, h.ltS, fun i => ?_, h.pres, h.s0, h.own, h.shr, fun i hi => h.keep i (hk i hi)⟩
  rcases hv i with h1 | ⟨h1, h2⟩
  · rw [h1]; trivial
  · rw [h1]; exact RV.na _ _ _ h2 (h.rv i)

theorem VT.mono {c : Code} {st : St} {Q Q' : Exit → St → Prop} (h : VT P N c st Q)
    (hq : ∀ e st', Q e st' → ∃ st'', Q' e st'' ∧ ∀ (B : Base P) a w S fp, Rl B N st' a w S fp → Rl B N st'' a w S fp) : VT P N c st Q' := by
  intro B a w S fp hr
  refine wp_mono (h B a w S fp hr) ?_
  rintro e a' w' ⟨st', S', fp', hQ, hr'⟩
  obtain ⟨st'', h1, h2⟩ := hq e st' hQ
  exact ⟨st'', S', fp', h1, h2 _ _ _ _ _ hr'⟩
theorem VT.pre {c : Code} {st st0 : St} {Q : Exit → St → Prop} (h : VT P N c st0 Q) (hn : ∀ (B : Base P) a w S fp, Rl B N st a w S fp → Rl B N st0 a w S fp) : VT P N c st Q :=
  fun B a w S fp hr => h B a w S fp (hn _ _ _ _ _ hr)

theorem VT.reg {id : Nat} {ops : Array Oper} {st : St} {Q : Exit → St → Prop} (us : Nat → List Upd) (h : ∀ i, i < ops.size → OTg P N ops i (st.upds ((List.range i).flatMap us)) (us i)) (hQ : Q .normal (st.upds ((List.range ops.size).flatMap us))) :
    VT P N (.region id ops false) st Q := by
  intro B a w S fp hr
  refine wp_region ?_
  have key : ∀ (k i : Nat) (a : Act) (w : World) (S : CS) (fp : Nat → CS), i + k = ops.size → Rl B N (st.upds ((List.range i).flatMap us)) a w S fp → wpOps P ops (fun e a' w' => ∃ st' S' fp', Q e st' ∧ Rl B N st' a' w' S' fp') (List.range' i k) a w := by
    intro k
    induction k with
    | zero =>
      intro i a w S fp hi hr
      obtain rfl : i = ops.size := by omega
      exact ⟨_, S, fp, hQ, hr⟩
    | succ k ih =>
      intro i a w S fp hi hr
      rw [List.range'_succ, wpOps_cons]
      refine h i (by omega) B a w S fp _ _ hr (fun a' w' S' fp' hr' => ih (i + 1) a' w' S' fp' (by omega) ?_)
      rw [List.range_succ, List.flatMap_append, upds_append]
      simpa using hr'
  have := key ops.size 0 a w S fp (by omega) (show Rl B N (st.upds ((List.range 0).flatMap us)) a w S fp from hr)
  simpa [List.range_eq_range'] using this

theorem selU_lt (n : Nat) (us : Nat → List Upd) (i : Nat) (hi : i ≤ n) : selU n us (fun j => decide (j < i)) = (List.range i).flatMap us := by
  unfold selU
  obtain ⟨k, rfl⟩ : ∃ k, n = i + k := ⟨n - i, by omega⟩
  rw [List.range_add, List.flatMap_append]
  have e1 : (List.range i).flatMap (fun j => if (fun j => decide (j < i)) j = true then us j else []) = (List.range i).flatMap us := by
    apply fm_congr
    intro j hj
    simp [List.mem_range.1 hj]
  have e2 : ((List.range k).map (i + ·)).flatMap (fun j => if (fun j => decide (j < i)) j = true then us j else []) = [] := by
    rw [List.flatMap_eq_nil_iff]
    intro j hj
    obtain ⟨m, _, rfl⟩ := List.mem_map.1 hj
    simp only [decide_eq_false (show ¬ i + m < i by omega)]; rfl
  rw [e1, e2, List.append_nil]
theorem selU_all (n : Nat) (us : Nat → List Upd) : selU n us (fun _ => true) = (List.range n).flatMap us := by
  unfold selU
  apply fm_congr
  intro j _
  rfl

/-- What a set of operations does to a place, told by those that touch it. -/
theorem sel_at {n : Nat} {us : Nat → List Upd} {st : St} {L L' : Nat → Bool} {t : Nat} (h : ∀ j, j < n → (∃ u ∈ us j, u.t = t) → L j = L' j) : (st.upds (selU n us L)) t = (st.upds (selU n us L')) t := by
  rw [upds_at, upds_at, sel_filter, sel_filter]
  congr 1
  apply fm_congr
  intro j hj
  by_cases hw : ∃ u ∈ us j, u.t = t
  · rw [h j (List.mem_range.1 hj) hw]
  · have : (us j).filter (fun u => decide (u.t = t)) = [] := by
      rw [List.filter_eq_nil_iff]
      intro u hu he
      exact hw ⟨u, hu, by simpa using he⟩
    rw [this]; simp
theorem selU_skip (n : Nat) (us : Nat → List Upd) (i k : Nat) (hi : i ≤ n) (hk : k < i) : selU n us (fun j => if j = k then !decide (k < i) else decide (j < i)) = (List.range k).flatMap us ++ (List.range' (k + 1) (i - (k + 1))).flatMap us := by
  have e0 : selU n us (fun j => if j = k then !decide (k < i) else decide (j < i)) = selU n (fun j => if j = k then [] else us j) (fun j => decide (j < i)) := by
    unfold selU
    apply fm_congr
    intro j _
    by_cases h : j = k
    · simp [h, hk]
    · simp only [if_neg h]
  rw [e0, selU_lt _ _ _ hi]
  have hs : List.range i = List.range k ++ (k :: List.range' (k + 1) (i - (k + 1))) := by
    rw [List.range_eq_range', List.range_eq_range', show k :: List.range' (k + 1) (i - (k + 1)) = List.range' k (i - k) from by
      rw [show i - k = (i - (k + 1)) + 1 by omega, List.range'_succ]]
    rw [show List.range' k (i - k) = List.range' (0 + 1 * k) (i - k) by simp, List.range'_append]
    congr 1; omega
  rw [hs, List.flatMap_append, List.flatMap_cons, if_pos rfl, List.nil_append]
  congr 1
  · apply fm_congr
    intro j hj
    rw [if_neg (by have := List.mem_range.1 hj; omega)]
  · apply fm_congr
    intro j hj
    rw [if_neg (by have := List.mem_range'_1.1 hj; omega)]
theorem selU_more (n : Nat) (us : Nat → List Upd) (i k : Nat) (hk : i < k) (hn : k < n) : selU n us (fun j => if j = k then !decide (k < i) else decide (j < i)) = (List.range i).flatMap us ++ us k := by
  have e1 := selU_lt n (fun j => if j = k then us k else if j < i then us j else []) (k + 1) (by omega)
  have e0 : selU n us (fun j => if j = k then !decide (k < i) else decide (j < i)) = selU n (fun j => if j = k then us k else if j < i then us j else []) (fun j => decide (j < k + 1)) := by
    unfold selU
    apply fm_congr
    intro j _
    by_cases h : j = k
    · subst h; simp [show ¬ j < i by omega]
    · by_cases h2 : j < i
      · simp [h, h2, show j < k + 1 by omega]
      · simp [h, h2]
  rw [e0, e1, List.range_succ, List.flatMap_append, List.flatMap_cons, List.flatMap_nil, List.append_nil, if_pos rfl]
  congr 1
  obtain ⟨m, rfl⟩ : ∃ m, k = i + m := ⟨k - i, by omega⟩
  rw [List.range_add, List.flatMap_append]
  have e2 : ((List.range m).map (i + ·)).flatMap (fun j => if j = i + m then us (i + m) else if j < i then us j else []) = [] := by
    rw [List.flatMap_eq_nil_iff]
    intro j hj
    obtain ⟨x, hx, rfl⟩ := List.mem_map.1 hj
    have := List.mem_range.1 hx
    rw [if_neg (by omega), if_neg (by omega)]
  rw [e2, List.append_nil]
  apply fm_congr
  intro j hj
  have := List.mem_range.1 hj
  rw [if_neg (by omega), if_pos this]

theorem VT.regO {id : Nat} {ops : Array Oper} {st : St} {Q : Exit → St → Prop} (hm : P.follows .mixedOrders = true) {us : Nat → List Upd} {ft anc : Nat → Nat → Prop} (hO : Order P N ops st us ft anc)
    (hQ : Q .normal (st.upds ((List.range ops.size).flatMap us))) : VT P N (.region id ops true) st Q := by
  intro B a w S fp hr
  refine wp_region_any hm ?_
  have hr0 : Rl B N st a { w with drawn := w.drawn + 1 } S fp := by
    have := hr.world (w' := { w with drawn := w.drawn + 1 }) (S' := S) (O := CS.none) ⟨rfl, rfl, Nat.le_refl _, fun b o h => ⟨o, h, .refl _ _⟩⟩ (fun _ _ h => h.elim) (CS.le.refl _) (fun b x hs => ⟨hr.ltS b x hs, hr.shr b x hs⟩) hr.djS
    exact this
  refine hO.any (B := B) (fun a w S fp h => ⟨_, S, fp, hQ, by rw [selU_all] at h; exact h⟩) ops.size _ a _ S fp (by simp) (fun i o ho hl => ?_) ?_ ?_
  · have hi := (Array.getElem?_eq_some_iff.1 ho).1
    simp [Array.getD, hi] at hl
  · refine Nat.le_trans (List.countP_le_length) (by simp)
  · have : selU ops.size us (fun j => (Array.replicate ops.size false).getD j false) = [] := by
      unfold selU
      rw [List.flatMap_eq_nil_iff]
      intro j hj
      simp [Array.getD, List.mem_range.1 hj]
    rw [this]; exact hr0

theorem VT.regAny {id : Nat} {ops : Array Oper} {st : St} {Q : Exit → St → Prop} (hm : P.follows .mixedOrders = true) (us : Nat → List Upd) (ft anc : Nat → Nat → Prop)
    (hop : ∀ i, i < ops.size → ∀ st2 : St, (∀ t, ft i t → st2 t = (st.upds ((List.range i).flatMap us)) t) → OTg P N ops i st2 (us i)) (hwr : ∀ i u, i < ops.size → u ∈ us i → ft i u.t)
    (hdis : ∀ i j t, i < ops.size → j < ops.size → i ≠ j → ¬ anc i j → ¬ anc j i → (∃ u ∈ us i, u.t = t) → ¬ ft j t) (hlt : ∀ i j, anc i j → i < j)
    (hedge : ∀ (i : Nat) (o : Oper), ops[i]? = some o → ∀ e ∈ o.after.toList, Region.binds .any e = true → e.on < i)
    (hclo : ∀ L : Nat → Bool, (∀ (i : Nat) (o : Oper), ops[i]? = some o → L i = true → ∀ e ∈ o.after.toList, Region.binds .any e = true → L e.on = true) →
      ∀ (i : Nat) (o : Oper), ops[i]? = some o → (∀ e ∈ o.after.toList, Region.binds .any e = true → L e.on = true) → ∀ k, anc k i → L k = true)
    (hQ : Q .normal (st.upds ((List.range ops.size).flatMap us))) : VT P N (.region id ops true) st Q := by
  refine VT.regO hm (ft := ft) (anc := anc) ⟨fun i hi L h1 h2 h3 st2 h => hop i hi st2 (fun t ht => ?_), hwr, fun i j t hi hj hij n1 n2 hu ⟨u, hu2, e⟩ => hdis i j t hi hj hij n1 n2 hu (e ▸ hwr j u hj hu2), hlt, hedge, hclo⟩ hQ
  rw [h t ht, ← selU_lt ops.size us i (Nat.le_of_lt hi)]
  refine sel_at fun j hj hw => ?_
  by_cases hji : j = i
  · subst hji; rw [h3, decide_eq_false (Nat.lt_irrefl _)]
  · by_cases hd : anc j i
    · rw [h1 j hd, decide_eq_true (hlt _ _ hd)]
    · by_cases hd2 : anc i j
      · rw [h2 j hd2 hj, decide_eq_false (by have := hlt _ _ hd2; omega)]
      · exact absurd ht (hdis j i t hj hi hji hd hd2 hw)
/-- The same, where an operation may also run on the other side of one that it is not bound to. -/
theorem VT.regEx {id : Nat} {ops : Array Oper} {st : St} {Q : Exit → St → Prop} (hm : P.follows .mixedOrders = true) (us : Nat → List Upd) (ft anc : Nat → Nat → Prop) (ex : Nat → Option Nat)
    (hop : ∀ i, i < ops.size → ∀ st2 : St, (∀ t, ft i t → st2 t = (st.upds ((List.range i).flatMap us)) t) → OTg P N ops i st2 (us i))
    (hop2 : ∀ i k, i < ops.size → k < ops.size → k ≠ i → ex i = some k → ∀ st2 : St, (∀ t, ft i t → st2 t = (st.upds (if k < i then (List.range k).flatMap us ++ (List.range' (k + 1) (i - (k + 1))).flatMap us else (List.range i).flatMap us ++ us k)) t) → OTg P N ops i st2 (us i))
    (hwr : ∀ i u, i < ops.size → u ∈ us i → ft i u.t)
    (hdis : ∀ i j t, i < ops.size → j < ops.size → i ≠ j → ¬ anc i j → ¬ anc j i → (∃ u ∈ us i, u.t = t) → ft j t → ex j = some i)
    (hww : ∀ i j t, i < ops.size → j < ops.size → i ≠ j → ¬ anc i j → ¬ anc j i → (∃ u ∈ us i, u.t = t) → ¬ ∃ u ∈ us j, u.t = t) (hlt : ∀ i j, anc i j → i < j)
    (hedge : ∀ (i : Nat) (o : Oper), ops[i]? = some o → ∀ e ∈ o.after.toList, Region.binds .any e = true → e.on < i)
    (hclo : ∀ L : Nat → Bool, (∀ (i : Nat) (o : Oper), ops[i]? = some o → L i = true → ∀ e ∈ o.after.toList, Region.binds .any e = true → L e.on = true) →
      ∀ (i : Nat) (o : Oper), ops[i]? = some o → (∀ e ∈ o.after.toList, Region.binds .any e = true → L e.on = true) → ∀ k, anc k i → L k = true)
    (hQ : Q .normal (st.upds ((List.range ops.size).flatMap us))) : VT P N (.region id ops true) st Q := by
  refine VT.regO hm (ft := ft) (anc := anc) ⟨fun i hi L h1 h2 h3 st2 h => ?_, hwr, hww, hlt, hedge, hclo⟩ hQ
  have key : ∀ t, ft i t → ∀ j, j < ops.size → (∃ u ∈ us j, u.t = t) → ex i ≠ some j → L j = decide (j < i) := fun t ht j hj hw hx => by
    by_cases hji : j = i
    · subst hji; rw [h3, decide_eq_false (Nat.lt_irrefl _)]
    · by_cases hd : anc j i
      · rw [h1 j hd, decide_eq_true (hlt _ _ hd)]
      · by_cases hd2 : anc i j
        · rw [h2 j hd2 hj, decide_eq_false (by have := hlt _ _ hd2; omega)]
        · exact absurd (hdis j i t hj hi hji hd hd2 hw ht) hx
  by_cases hx : ∃ k, ex i = some k ∧ k < ops.size ∧ k ≠ i ∧ L k ≠ decide (k < i)
  · obtain ⟨k, hk, hks, hki, hL⟩ := hx
    refine hop2 i k hi hks hki hk st2 (fun t ht => ?_)
    have e : (if k < i then (List.range k).flatMap us ++ (List.range' (k + 1) (i - (k + 1))).flatMap us else (List.range i).flatMap us ++ us k) = selU ops.size us (fun j => if j = k then !decide (k < i) else decide (j < i)) := by
      by_cases hlt' : k < i
      · rw [if_pos hlt', selU_skip _ _ _ _ (Nat.le_of_lt hi) hlt']
      · rw [if_neg hlt', selU_more _ _ _ _ (by omega) hks]
    rw [h t ht, e]
    refine sel_at fun j hj hw => ?_
    by_cases hjk : j = k
    · subst hjk
      rw [if_pos rfl]
      cases h5 : L j <;> cases h6 : decide (j < i) <;> simp [h5, h6] at hL ⊢
    · rw [if_neg hjk]
      exact key t ht j hj hw (fun e => hjk (by rw [hk] at e; exact (Option.some.inj e).symm))
  · refine hop i hi st2 (fun t ht => ?_)
    rw [h t ht, ← selU_lt ops.size us i (Nat.le_of_lt hi)]
    refine sel_at fun j hj hw => ?_
    by_cases hxj : ex i = some j
    · by_cases hji : j = i
      · subst hji; rw [h3, decide_eq_false (Nat.lt_irrefl _)]
      · exact Classical.byContradiction fun hne => hx ⟨j, hxj, hj, hji, hne⟩
    · exact key t ht j hj hw hxj
end
end Go.Proofs.YtainknkfjekngaaDoor.Vm
