/- What an operation looks at. -/
import Derived.Test.YtainknkfjekngaaDoorVm11b
namespace Go.Proofs.YtainknkfjekngaaDoor.Vm
open Go
set_option linter.unusedVariables false
set_option linter.unusedSimpArgs false

/-- The temporaries that the names in a value go to. -/
def V.rts : V → List Nat
  | .al x => [x.root]
  | .tl x _ => [x.root]
  | .agg cs | .tup cs | .fn _ cs => go cs
  | _ => []
where go : List V → List Nat
  | [] => []
  | c :: cs => c.rts ++ go cs
def FootX (F : Nat → Prop) (st : St) : XO → Prop
  | .t n => F n ∧ ∀ r ∈ (st n).v.rts, F r
  | _ => True

section
variable {F : Nat → Prop} {st st2 : St}

theorem fx_at (h : ∀ t, F t → st2 t = st t) {n : Nat} (hx : FootX F st (.t n)) : st2 n = st n := h n hx.1
theorem fx_val (h : ∀ t, F t → st2 t = st t) {x : XO} (hx : FootX F st x) : st2.val x = st.val x := by
  cases x with
  | t n => simp only [St.val, h n hx.1]
  | _ => rfl
theorem fx_good (h : ∀ t, F t → st2 t = st t) {y : Al} (hy : F y.root) : st2.good y = st.good y := by
  simp only [St.good, h _ hy]
theorem fx_res (h : ∀ t, F t → st2 t = st t) {x : XO} (hx : FootX F st x) : st2.res x = st.res x := by
  cases x with
  | t n =>
    simp only [St.res, h n hx.1]
    cases hv : (st n).v with
    | al y => simp only [fx_good h (hx.2 y.root (by rw [hv]; simp [V.rts]))]
    | _ => rfl
  | _ => rfl
theorem fx_resH (h : ∀ t, F t → st2 t = st t) {x : XO} (hx : FootX F st x) : st2.resH x = st.resH x := by
  cases x with
  | t n =>
    simp only [St.resH, h n hx.1]
    cases hv : (st n).v with
    | al y => simp only [fx_good h (hx.2 y.root (by rw [hv]; simp [V.rts]))]
    | sl o n es => cases o <;> rfl
    | _ => rfl
  | _ => rfl
theorem fx_root {x : XO} (hx : FootX F st x) {r : Nat} {p : List (Nat × Nat)} (hr : st.res x = some (r, p)) : F r := by
  cases x with
  | t n =>
    simp only [St.res] at hr
    split at hr
    · cases hr; exact hx.1
    · rename_i y hv
      split at hr <;> cases hr
      exact hx.2 _ (by rw [hv]; simp [V.rts])
    · cases hr
  | _ => simp [St.res] at hr
theorem fx_rootH {x : XO} (hx : FootX F st x) {r : Nat} {p : List (Nat × Nat)} (hr : st.resH x = some (r, p)) : F r := by
  cases x with
  | t n =>
    simp only [St.resH] at hr
    split at hr
    · cases hr; exact hx.1
    · rename_i y hv
      split at hr <;> cases hr
      exact hx.2 _ (by rw [hv]; simp [V.rts])
    · cases hr
  | _ => simp [St.resH] at hr
theorem fx_slAt (h : ∀ t, F t → st2 t = st t) {r : Nat} (hr : F r) (p : List (Nat × Nat)) : st2.slAt r p = st.slAt r p := by
  cases p with
  | nil => simp only [St.slAt, h r hr]
  | cons q p => simp only [St.slAt, h r hr]
theorem fx_view (h : ∀ t, F t → st2 t = st t) {r : Nat} (hr : F r) (p : List (Nat × Nat)) : ∀ (cs : List V) (j : Nat), st2.view r p j cs = st.view r p j cs
  | [], _ => rfl
  | v :: vs, j => by simp only [St.view, St.hdrAt, h r hr, fx_view h hr p vs]
theorem fx_sv (h : ∀ t, F t → st2 t = st t) {x : XO} (hx : FootX F st x) : st2.sv x = st.sv x := by
  simp only [St.sv, fx_val h hx, fx_resH h hx]
  split
  · rfl
  · split
    · rename_i r p hr
      rw [fx_slAt h (fx_rootH hx hr)]
    · rfl
theorem fx_bvL (h : ∀ t, F t → st2 t = st t) {v : V} (hv : ∀ r ∈ v.rts, F r) : st2.bvL v = st.bvL v := by
  unfold St.bvL
  cases v with
  | al y =>
    have hy := hv y.root (by simp [V.rts])
    simp only [fx_good h hy, fx_slAt h hy, h _ hy]
  | _ => rfl
theorem fx_bvLs (h : ∀ t, F t → st2 t = st t) : ∀ {cs : List V}, (∀ r ∈ V.rts.go cs, F r) → cs.map st2.bvL = cs.map st.bvL
  | [], _ => rfl
  | c :: cs, hv => by
    simp only [V.rts.go, List.mem_append] at hv
    simp only [List.map_cons, fx_bvL h (fun r hr => hv r (.inl hr)), fx_bvLs h (fun r hr => hv r (.inr hr))]
theorem fx_bv0 (h : ∀ t, F t → st2 t = st t) {x : XO} (hx : FootX F st x) (n : Nat) : st2.bv0 n x = st.bv0 n x := by
  unfold St.bv0
  rw [fx_val h hx]
  cases x with
  | t m =>
    simp only [St.val]
    cases hv : (st m).v with
    | al y =>
      have hy := hx.2 y.root (by rw [hv]; simp [V.rts])
      simp only [fx_good h hy, fx_slAt h hy, h _ hy]
    | agg cs =>
      simp only
      rw [fx_bvLs h (fun r hr => hx.2 r (by rw [hv]; exact hr))]
    | fn g cs =>
      simp only
      rw [fx_bvLs h (fun r hr => hx.2 r (by rw [hv]; exact hr))]
    | _ => rfl
  | _ => rfl
theorem fx_bv (h : ∀ t, F t → st2 t = st t) {x : XO} (hx : FootX F st x) (n : Nat) : st2.bv n x = st.bv n x := by
  unfold St.bv
  rw [fx_bv0 h hx]
theorem fx_name (h : ∀ t, F t → st2 t = st t) {r : Nat} (hr : F r) : st2.name r = st.name r := by
  simp only [St.name, h r hr]
theorem fx_nmv (h : ∀ t, F t → st2 t = st t) {x : XO} (hx : FootX F st x) : st2.nmv x = st.nmv x := by
  cases x with
  | t r => simp only [St.nmv, fx_name h hx.1, h r hx.1]
  | _ => rfl
theorem fx_ptrAt (h : ∀ t, F t → st2 t = st t) {r : Nat} (hr : F r) (p : List (Nat × Nat)) : st2.ptrAt r p = st.ptrAt r p := by
  simp only [St.ptrAt, h r hr]

def XOp.ns : XOp → List XO
  | .boxZ _ x => [x]
  | .mkF _ _ ys => ys
  | .appC _ _ _ q y _ => [.t q, y]
  | .storeZ x q _ => [x, .t q]
  | .tlS _ _ x lo => x :: lo.toList
  | .clr x _ => [x]
  | .callF _ x ys => x :: ys
  | .mv _ x | .un _ _ x | .box _ x | .fadr _ x _ | .load _ x _ _ | .loadT _ x _ _ | .loadZ _ x _ _ | .nilck _ x | .lenS _ x | .lenB _ x | .ext _ x _ | .nilq _ _ x | .cvi _ _ _ x | .b2s _ x | .s2b _ x | .stN x _ _ | .fld _ x _ _ _ => [x]
  | .mvT _ r | .mvA _ r | .mvZ _ r | .boxT _ r | .extT _ r _ | .fldT _ r _ _ _ => [.t r]
  | .boxL d r => [.t r, .t d]
  | .pick _ c a b => [c, a, b]
  | .bin _ _ _ x y | .store x y _ | .iadr _ _ x y | .eqA _ _ _ x y | .idx _ x y | .app _ _ _ x y | .mkS _ _ _ x y | .mm _ _ x y => [x, y]
  | .storeT x q _ | .appT _ _ _ x q => [x, .t q]
  | .alloc _ _ | .allocB _ _ _ | .mvN _ _ | .dead | .mvP _ _ => []
  | .slcS _ x lo hi | .cutS _ _ x lo hi => x :: (lo.toList ++ hi.toList)
  | .cutT _ _ q lo hi => .t q :: (lo.toList ++ hi.toList)
  | .bld _ _ ps | .bldS _ _ _ ps | .bldZ _ _ _ ps => ps.map (·.x)
  | .callB _ _ ys => ys.map (·.1)
  | .callS _ _ ys => ys
  | .callM _ _ l1 (.tmp q) l2 => .t q :: (l1.map (·.1) ++ l2.map (·.1))
  | .callM _ _ l1 (.agg y r) l2 => .t r :: y :: (l1.map (·.1) ++ l2.map (·.1))
  | .callM _ _ l1 (.tmpS q) l2 => .t q :: (l1.map (·.1) ++ l2.map (·.1))
  | .callM _ _ l1 (.ptrS y r) l2 => .t r :: y :: (l1.map (·.1) ++ l2.map (·.1))
  | .callM _ _ l1 (.aggS y r s) l2 => .t s :: .t r :: y :: (l1.map (·.1) ++ l2.map (·.1))
  | .callM _ _ l1 (.ptr y r) l2 => .t r :: y :: (l1.map (·.1) ++ l2.map (·.1))
  | .callM _ _ l1 (.tmp2 q q2) l2 => .t q :: .t q2 :: (l1.map (·.1) ++ l2.map (·.1))

theorem fx_bnd (h : ∀ t, F t → st2 t = st t) {o : Option XO} (ho : ∀ x ∈ o.toList, FootX F st x) : o.map st2.val = o.map st.val := by
  cases o with
  | none => rfl
  | some x => simp only [Option.map_some, fx_val h (ho x (by simp))]

theorem fx_bldU : ∀ (ps : List Prt) (st st2 : St) (acc : List V), (∀ t, F t → st2 t = st t) → (∀ p ∈ ps, FootX F st p.x) → bldU ps st2 acc = bldU ps st acc
  | [], _, _, _, _, _ => rfl
  | p :: ps, st, st2, acc, h, hp => by
    have hx := hp p (by simp)
    simp only [bldU, fx_val h hx]
    cases (st.val p.x).cells with
    | none => rfl
    | some cs =>
      simp only
      split
      · split
        · exact fx_bldU ps st st2 _ h (fun q hq => hp q (by simp [hq]))
        · cases hpx : p.x with
          | t q =>
            simp only
            rw [fx_bldU ps (st.put q .hole) (st2.put q .hole) _ (fun t ht => by
              simp only [St.put]
              split
              · rename_i e; subst e; rw [hpx] at hx; rw [h _ hx.1]
              · exact h t ht) (fun p' hp' => by
              have := hp p' (by simp [hp'])
              cases hpx' : p'.x with
              | t m =>
                rw [hpx'] at this
                refine ⟨this.1, fun r hr => ?_⟩
                simp only [St.put] at hr
                split at hr
                · simp [V.rts] at hr
                · exact this.2 r hr
              | _ => trivial)]
          | _ => rfl
      · rfl

mutual
theorem frz_rts : ∀ (v : V) (r : Nat), r ∈ v.frz.rts → r ∈ v.rts
  | .lit _, _, h | .hole, _, h | .box _, _, h | .sl _ _ _, _, h | .rp _, _, h | .bld _ _ _, _, h | .tl _ _, _, h => by simp [V.frz, V.rts] at h
  | .al _, _, h => h
  | .agg cs, r, h => by simp only [V.frz, V.rts] at h ⊢; exact frz_go_rts cs r h
  | .tup cs, r, h => by simp only [V.frz, V.rts] at h ⊢; exact frz_go_rts cs r h
  | .fn _ cs, r, h => by simp only [V.frz, V.rts] at h ⊢; exact frz_go_rts cs r h
theorem frz_go_rts : ∀ (vs : List V) (r : Nat), r ∈ V.rts.go (V.frz.go vs) → r ∈ V.rts.go vs
  | [], _, h => h
  | v :: vs, r, h => by
    simp only [V.frz.go, V.rts.go, List.mem_append] at h ⊢
    exact h.imp (frz_rts v r) (frz_go_rts vs r)
end
def frzT (st : St) (q : Nat) : St := (st.put q .hole).put q (st q).v.frz
theorem stZU_store (x : XO) (q n : Nat) (st : St) : stZU x q n st = (stepU (.store x (.t q) n) (frzT st q)).map fun us => ⟨q, .pu, .hole⟩ :: ⟨q, .pu, (st q).v.frz⟩ :: us := by
  simp only [stZU, stepU, frzT]
  repeat' split
  all_goals first | rfl | simp_all
theorem stepA_congr {st st2 : St} (h : ∀ t, F t → st2 t = st t) (x : XOp) (hx : ∀ y ∈ x.ns, FootX F st y) : stepA x st2 = stepA x st := by
  cases x with
  | app d n by_ x y => simp only [stepA, fx_val h (hx x (by simp [XOp.ns])), fx_sv h (hx y (by simp [XOp.ns]))]
  | appT d n by_ x q => simp only [stepA, fx_val h (hx x (by simp [XOp.ns])), fx_at h (hx (.t q) (by simp [XOp.ns]))]
  | _ => rfl
theorem clm_congr {st st2 : St} (h : ∀ t, F t → st2 t = st t) {q : Nat} (hq : FootX F st (.t q)) : st2.clm q = st.clm q := by
  unfold St.clm
  rw [fx_at h hq]
  cases hv : (st q).v with
  | al y =>
    have hy := hq.2 y.root (by rw [hv]; simp [V.rts])
    simp only [fx_good h hy, h _ hy]
  | _ => rfl
theorem clm_own {st : St} {q r : Nat} {b : Bool} {v' c : V} (h : st.clm q = some (r, b, v', c)) : ∃ n es, c = .sl true n es ∧ ∃ y, (st q).v = .al y ∧ r = y.root := by
  unfold St.clm at h
  split at h <;> try (cases h; done)
  rename_i y hy
  split at h <;> try (cases h; done)
  split at h <;> try (cases h; done)
  split at h <;> split at h <;> try (cases h; done)
  · cases h
    exact ⟨_, _, rfl, y, hy, rfl⟩
  · cases h
    exact ⟨_, _, rfl, y, hy, rfl⟩
theorem stepU_congr (h : ∀ t, F t → st2 t = st t) (x : XOp) (hx : ∀ y ∈ x.ns, FootX F st y) : stepU x st2 = stepU x st := by
  cases x with
  | mv d x => simp only [stepU, fx_val h (hx x (by simp [XOp.ns]))]
  | mvT d r => simp only [stepU, fx_at h (hx (.t r) (by simp [XOp.ns]))]
  | mvA d r =>
    have hr := hx (.t r) (by simp [XOp.ns])
    simp only [stepU, fx_name h hr.1, fx_at h hr]
  | mvP d r => rfl
  | mvZ d r => simp only [stepU, fx_at h (hx (.t r) (by simp [XOp.ns]))]
  | pick d c a b => simp only [stepU, fx_val h (hx c (by simp [XOp.ns])), fx_val h (hx a (by simp [XOp.ns])), fx_val h (hx b (by simp [XOp.ns]))]
  | bin d bt op x y => simp only [stepU, fx_val h (hx x (by simp [XOp.ns])), fx_val h (hx y (by simp [XOp.ns]))]
  | un d op x => simp only [stepU, fx_val h (hx x (by simp [XOp.ns]))]
  | alloc d zs => rfl
  | allocB d T E => rfl
  | box d x => simp only [stepU, fx_val h (hx x (by simp [XOp.ns]))]
  | boxT d r => simp only [stepU, fx_at h (hx (.t r) (by simp [XOp.ns]))]
  | boxL d r => simp only [stepU, fx_at h (hx (.t r) (by simp [XOp.ns])), fx_at h (hx (.t d) (by simp [XOp.ns]))]
  | fadr d x off =>
    have h1 := hx x (by simp [XOp.ns])
    simp only [stepU, fx_val h h1, fx_res h h1]
    split
    · rfl
    · split
      · rename_i r p hr; rw [fx_ptrAt h (fx_root h1 hr)]
      · rfl
  | iadr d n x i =>
    have h1 := hx x (by simp [XOp.ns])
    have h2 := hx i (by simp [XOp.ns])
    simp only [stepU, fx_val h h1, fx_val h h2, fx_resH h h1]
    split
    · split
      · split
        · rfl
        · split
          · rename_i r p hr
            simp only [fx_slAt h (fx_rootH h1 hr), fx_ptrAt h (fx_rootH h1 hr)]
          · rfl
      · rfl
    · rfl
  | load d x n g =>
    have h1 := hx x (by simp [XOp.ns])
    simp only [stepU, fx_val h h1, fx_res h h1]
    split
    · rfl
    · split
      · rename_i r p hr
        simp only [h r (fx_root h1 hr), fx_view h (fx_root h1 hr)]
      · rfl
  | loadT d x n g =>
    have h1 := hx x (by simp [XOp.ns])
    simp only [stepU, fx_res h h1]
    split
    · rename_i r p hr
      simp only [h r (fx_root h1 hr)]
    · rfl
  | loadZ d x n g =>
    have h1 := hx x (by simp [XOp.ns])
    simp only [stepU, fx_res h h1]
    split
    · rename_i r p hr
      simp only [h r (fx_root h1 hr)]
    · rfl
  | store x y n =>
    have h1 := hx x (by simp [XOp.ns])
    simp only [stepU, fx_res h h1, fx_val h (hx y (by simp [XOp.ns]))]
    split
    · rename_i r p hr
      simp only [h r (fx_root h1 hr)]
    · rfl
  | storeT x q n =>
    have h1 := hx x (by simp [XOp.ns])
    simp only [stepU, fx_res h h1, fx_at h (hx (.t q) (by simp [XOp.ns]))]
    split
    · rename_i r p hr
      simp only [h r (fx_root h1 hr)]
    · rfl
  | nilck d x =>
    have h1 := hx x (by simp [XOp.ns])
    simp only [stepU, fx_val h h1, fx_res h h1]
    split
    · rfl
    · rfl
    · split
      · rename_i r p hr; rw [fx_ptrAt h (fx_root h1 hr)]
      · rfl
  | lenS d x => simp only [stepU, fx_val h (hx x (by simp [XOp.ns]))]
  | lenB d x =>
    have h1 := hx x (by simp [XOp.ns])
    simp only [stepU, fx_val h h1, fx_resH h h1]
    split
    · rfl
    · split
      · rename_i r p hr
        simp only [fx_slAt h (fx_rootH h1 hr)]
      · rfl
  | ext d x i => simp only [stepU, fx_val h (hx x (by simp [XOp.ns]))]
  | extT d r i => simp only [stepU, fx_at h (hx (.t r) (by simp [XOp.ns]))]
  | eqA d neg ks x y => simp only [stepU, fx_val h (hx x (by simp [XOp.ns])), fx_val h (hx y (by simp [XOp.ns]))]
  | nilq d neg x => simp only [stepU, fx_sv h (hx x (by simp [XOp.ns]))]
  | cvi d k k' x => simp only [stepU, fx_val h (hx x (by simp [XOp.ns]))]
  | b2s d x => simp only [stepU, fx_sv h (hx x (by simp [XOp.ns]))]
  | s2b d x => rfl
  | idx d x i => simp only [stepU, fx_val h (hx x (by simp [XOp.ns])), fx_val h (hx i (by simp [XOp.ns]))]
  | slcS d x lo hi => simp only [stepU, fx_val h (hx x (by simp [XOp.ns])), fx_bnd h (o := lo) (fun y hy => hx y (by simp only [XOp.ns, List.mem_cons, List.mem_append]; exact .inr (.inl hy))), fx_bnd h (o := hi) (fun y hy => hx y (by simp only [XOp.ns, List.mem_cons, List.mem_append]; exact .inr (.inr hy)))]
  | cutS d n x lo hi => simp only [stepU, fx_val h (hx x (by simp [XOp.ns])), fx_bnd h (o := lo) (fun y hy => hx y (by simp only [XOp.ns, List.mem_cons, List.mem_append]; exact .inr (.inl hy))), fx_bnd h (o := hi) (fun y hy => hx y (by simp only [XOp.ns, List.mem_cons, List.mem_append]; exact .inr (.inr hy)))]
  | cutT d n q lo hi => simp only [stepU, fx_at h (hx (.t q) (by simp [XOp.ns])), fx_bnd h (o := lo) (fun y hy => hx y (by simp only [XOp.ns, List.mem_cons, List.mem_append]; exact .inr (.inl hy))), fx_bnd h (o := hi) (fun y hy => hx y (by simp only [XOp.ns, List.mem_cons, List.mem_append]; exact .inr (.inr hy)))]
  | app d n by_ x y => simp only [stepU, fx_val h (hx x (by simp [XOp.ns])), fx_sv h (hx y (by simp [XOp.ns]))]
  | appT d n by_ x q => simp only [stepU, fx_val h (hx x (by simp [XOp.ns])), fx_at h (hx (.t q) (by simp [XOp.ns]))]
  | bld d zs ps => simp only [stepU, fx_bldU ps st st2 _ h (fun p hp => hx p.x (by simp only [XOp.ns]; exact List.mem_map_of_mem hp))]
  | bldZ d k zs ps => simp only [stepU, fx_bldU ps st st2 _ h (fun p hp => hx p.x (by simp only [XOp.ns]; exact List.mem_map_of_mem hp))]
  | bldS d k zs ps => simp only [stepU, fx_bldU ps st st2 _ h (fun p hp => hx p.x (by simp only [XOp.ns]; exact List.mem_map_of_mem hp))]
  | mkS d by_ zs x y => simp only [stepU, fx_val h (hx x (by simp [XOp.ns])), fx_val h (hx y (by simp [XOp.ns]))]
  | mvN d n => rfl
  | dead => rfl
  | stN x k n =>
    have h1 := hx x (by simp [XOp.ns])
    simp only [stepU, fx_res h h1]
    split
    · rename_i r p hr
      simp only [h r (fx_root h1 hr)]
    · rfl
  | fld d x off n g => simp only [stepU, fx_val h (hx x (by simp [XOp.ns]))]
  | fldT d r off n g => simp only [stepU, fx_at h (hx (.t r) (by simp [XOp.ns]))]
  | mm d mx x y => simp only [stepU, fx_val h (hx x (by simp [XOp.ns])), fx_val h (hx y (by simp [XOp.ns]))]
  | callB d f ys => rfl
  | callS d f ys => rfl
  | callM d f l1 k l2 => rfl
  | callF d x ys => rfl
  | boxZ d x => simp only [stepU, fx_val h (hx x (by simp [XOp.ns]))]
  | appC d n by_ q y tk =>
    have hq := hx (.t q) (by simp [XOp.ns])
    have hy := hx y (by simp [XOp.ns])
    simp only [stepU, appCU, clm_congr h hq]
    split
    · rename_i r b v' c hc
      obtain ⟨m, es, rfl, z, hz, rfl⟩ := clm_own hc
      have hr := hq.2 z.root (by rw [hz]; simp [V.rts])
      have h1 : ∀ t, F t → ((st2.umod z.root b v').put q (.sl true m es)) t = ((st.umod z.root b v').put q (.sl true m es)) t := fun t ht => by
        cases b <;> simp only [St.put, St.umod, St.tk, if_true, Bool.false_eq_true, if_false]
        all_goals
        by_cases e : t = q
        · simp only [e, if_true, h q hq.1, h _ hr]
        · simp only [e, if_false]
          by_cases e2 : t = z.root
          · simp only [e2, if_true, h _ hr]
          · simp only [e2, if_false, h t ht]
      have h2 : ∀ x, FootX F st x → (∀ k, x = .t k → k = q ∨ k ≠ z.root ∨ V.rts v' = []) → FootX F ((st.umod z.root b v').put q (.sl true m es)) x := fun x hx hk => by
        cases x with
        | t k =>
          refine ⟨hx.1, fun r hr => ?_⟩
          have hu : (st.umod z.root b v') = fun i => if i = z.root then ⟨v', (if b then (st z.root).ver + 1 else (st z.root).ver), (if b then (st z.root).hv + 1 else (st z.root).hv)⟩ else st i := by cases b <;> rfl
          rw [hu] at hr
          simp only [St.put] at hr
          split at hr
          · simp [V.rts] at hr
          · rename_i e
            split at hr
            · rename_i e2
              rcases hk k rfl with h3 | h3 | h3
              · exact absurd h3 e
              · exact absurd e2 h3
              · simp [h3] at hr
            · exact hx.2 r hr
        | _ => trivial
      have hv' : V.rts v' = [] := by
        unfold St.clm at hc
        rw [hz] at hc
        simp only at hc
        split at hc <;> try (cases hc; done)
        split at hc <;> try (cases hc; done)
        split at hc
        · split at hc <;> try (cases hc; done)
          simp only [Option.some.injEq, Prod.mk.injEq] at hc
          rw [← hc.2.2.1]; rfl
        rename_i i p hp
        split at hc <;> try (cases hc; done)
        rename_i n' es' hget
        simp only [Option.some.injEq, Prod.mk.injEq] at hc
        rw [← hc.2.2.1]
        have : ∀ v : V, (v.getR 1 (i :: p)).isSome = true → (v.setR (i :: p) [V.hole]).rts = [] := by
          intro v hv
          have he : ∀ (v : V) (i : Nat) (ys : List V), (v.elem i).isSome = true → (v.setElem i ys).rts = [] := by
            intro v i ys hv; cases v <;> first | rfl | simp [V.elem] at hv
          cases p with
          | nil =>
            obtain ⟨i1, i2⟩ := i
            simp only [V.getR] at hv
            simp only [V.setR]
            cases hel : v.elem i1 with
            | none => simp [hel] at hv
            | some cs => exact he v i1 _ (by rw [hel]; rfl)
          | cons q' p' =>
            obtain ⟨i1, i2⟩ := i
            simp only [V.getR] at hv
            simp only [V.setR]
            cases hel : v.elem i1 with
            | none => simp [hel] at hv
            | some cs =>
              rw [hel] at hv
              simp only [Option.bind_some] at hv
              cases hcs : cs[i2]? with
              | none => simp [hcs] at hv
              | some c =>
                simp only [hcs]
                exact he v i1 _ (by rw [hel]; rfl)
        exact this _ (by rw [hget]; rfl)
      rw [stepA_congr h1 (innApp d n by_ q y tk) (fun x hx' => h2 x (by
        have : x = .t q ∨ x = y := by
          cases tk <;> cases y <;> simp [innApp, XOp.ns] at hx' <;> exact hx'
        rcases this with rfl | rfl
        · exact hq
        · exact hy) (fun k _ => .inr (.inr hv')))]
    · rfl
  | storeZ x q n =>
    have hq := hx (.t q) (by simp [XOp.ns])
    have hxx := hx x (by simp [XOp.ns])
    have h1 : ∀ t, F t → (frzT st2 q) t = (frzT st q) t := fun t ht => by
      simp only [frzT, St.put, h q hq.1]
      by_cases e : t = q
      · simp only [e, if_true]
      · simp only [e, if_false, h t ht]
    have h2 : ∀ z, FootX F st z → FootX F (frzT st q) z := fun z hz => by
      cases z with
      | t k =>
        refine ⟨hz.1, fun r hr => ?_⟩
        simp only [frzT, St.put] at hr
        by_cases e : k = q
        · simp only [e, if_true] at hr
          exact hq.2 r (frz_rts _ _ hr)
        · simp only [e, if_false] at hr
          exact hz.2 r hr
      | _ => trivial
    have h3 := h2 x hxx
    show stZU x q n st2 = stZU x q n st
    rw [stZU_store, stZU_store, fx_at h hq]
    have : stepU (.store x (.t q) n) (frzT st2 q) = stepU (.store x (.t q) n) (frzT st q) := by
      simp only [stepU, fx_res h1 h3, fx_val h1 (h2 _ hq)]
      split
      · rename_i r p hr
        simp only [h1 r (fx_root h3 hr)]
      · rfl
    rw [this]
  | tlS d n x lo =>
    have h1 := hx x (by simp [XOp.ns])
    have h2 := fx_bnd h (o := lo) (fun y hy => hx y (by simp only [XOp.ns, List.mem_cons]; exact .inr hy))
    show tlU d n x lo st2 = tlU d n x lo st
    simp only [tlU, fx_resH h h1, h2]
    split
    · rename_i r hr
      simp only [h r (fx_rootH h1 hr)]
    · rfl
  | clr x zs =>
    have h1 := hx x (by simp [XOp.ns])
    show clrU x zs st2 = clrU x zs st
    simp only [clrU, fx_val h h1]
    cases x with
    | t k =>
      simp only [St.val]
      cases hv : (st k).v with
      | tl y m =>
        have hy := h1.2 y.root (by rw [hv]; simp [V.rts])
        simp only [fx_good h hy, h _ hy]
      | _ => rfl
    | _ => rfl
  | mkF d g ys =>
    have e : ys.map st2.nmv = ys.map st.nmv := List.map_congr_left fun y hy => fx_nmv h (hx y hy)
    simp only [stepU, e]

theorem fx_put (h : ∀ t, F t → st2 t = st t) {q : Nat} (hq : F q) (v : V) : ∀ t, F t → (st2.put q v) t = (st.put q v) t := fun t ht => by
  simp only [St.put, h q hq]
  split
  · rfl
  · exact h t ht
theorem fx_mod (h : ∀ t, F t → st2 t = st t) {q : Nat} (hq : F q) (v : V) : ∀ t, F t → (st2.mod q v) t = (st.mod q v) t := fun t ht => by
  simp only [St.mod, h q hq]
  split
  · rfl
  · exact h t ht
theorem footX_put {x : XO} (hx : FootX F st x) (q : Nat) : FootX F (st.put q .hole) x := by
  cases x with
  | t n =>
    refine ⟨hx.1, fun r hr => ?_⟩
    simp only [St.put] at hr
    split at hr
    · simp [V.rts] at hr
    · exact hx.2 r hr
  | _ => trivial
theorem footX_mod {x : XO} (hx : FootX F st x) (q : Nat) (v : V) (hv : ∀ r ∈ v.rts, F r) : FootX F (st.mod q v) x := by
  cases x with
  | t n =>
    refine ⟨hx.1, fun r hr => ?_⟩
    simp only [St.mod] at hr
    split at hr
    · exact hv r hr
    · exact hx.2 r hr
  | _ => trivial
theorem setR_rts (v : V) (p : List (Nat × Nat)) (xs : List V) : (v.setR p xs).rts = v.rts := by
  have he : ∀ (v : V) (i : Nat) (ys : List V), (v.setElem i ys).rts = v.rts := by
    intro v i ys; cases v <;> rfl
  match p with
  | [] => rfl
  | [(i, k)] =>
    simp only [V.setR]
    split
    · exact he _ _ _
    · rfl
  | (i, k) :: q :: p =>
    simp only [V.setR]
    split
    · split
      · exact he _ _ _
      · rfl
    · rfl
theorem fx_bvs (h : ∀ t, F t → st2 t = st t) : ∀ {ys : List (XO × Nat)}, (∀ y ∈ ys.map (·.1), FootX F st y) → (ys.map fun y => st2.bv y.2 y.1) = ys.map fun y => st.bv y.2 y.1
  | [], _ => rfl
  | y :: ys, hy => by
    simp only [List.map_cons, fx_bv h (hy y.1 (by simp)), fx_bvs h (fun z hz => hy z (by simp only [List.map_cons, List.mem_cons]; exact .inr hz))]

/-- A step is the same wherever what it looks at is the same. -/
theorem stepX_congr {P : Program} {us : List Upd} (h : ∀ t, F t → st2 t = st t) (x : XOp) (hx : ∀ y ∈ x.ns, FootX F st y)
    (hnq : ∀ d neg y, x ≠ .nilq d neg y)
    (hb : ∀ d f ys, x = .callB d f ys → ∀ v, st.put d v = st.upds us → ∀ s : St, s.put d v = s.upds us) (hs : ∀ d f ys, x = .callS d f ys → ∀ v, st.put d v = st.upds us → ∀ s : St, s.put d v = s.upds us)
    (hm1 : ∀ d f l1 k q l2, x = .callM d f l1 k l2 → (k = .tmp q ∨ (∃ y, k = .ptr y q) ∨ k = .tmpS q ∨ ∃ y, k = .ptrS y q) → (∀ v, (st.put q .hole).put d v = st.upds us → ∀ s : St, (s.put q .hole).put d v = s.upds us) ∧ ∀ o v, (st.mod q o).put d v = st.upds us → ∀ s : St, (s.mod q o).put d v = s.upds us)
    (hm2 : ∀ d f l1 y r l2, x = .callM d f l1 (.agg y r) l2 → ∀ o v, (st.mod r o).put d v = st.upds us → ∀ s : St, (s.mod r o).put d v = s.upds us)
    (hm3 : ∀ d f l1 y r z l2, x = .callM d f l1 (.aggS y r z) l2 → ∀ o v q, ((st.mod r o).put d v).mod z q = st.upds us → ∀ s : St, ((s.mod r o).put d v).mod z q = s.upds us)
    (hm4 : ∀ d f l1 q q2 l2, x = .callM d f l1 (.tmp2 q q2) l2 → (∀ v, ((st.put q .hole).put q2 .hole).put d v = st.upds us → ∀ s : St, ((s.put q .hole).put q2 .hole).put d v = s.upds us) ∧ ∀ o v, ((st.put q2 .hole).mod q o).put d v = st.upds us → ∀ s : St, ((s.put q2 .hole).mod q o).put d v = s.upds us)
    (hf : ∀ d y ys, x = .callF d y ys → ∀ v, st.put d v = st.upds us → ∀ s : St, s.put d v = s.upds us)
    (hU : ∀ us0, stepU x st = some us0 → us0 = us)
    (hk : stepX P x st fun st' => st' = st.upds us) : stepX P x st2 fun st' => st' = st2.upds us := by
  cases x with
  | callB d f ys =>
    obtain ⟨h1, v, h2, h3, h4⟩ := hk
    have e := fx_bvs h (ys := ys) (fun y hy => hx y (by simp only [XOp.ns]; exact hy))
    exact ⟨by rw [e]; exact h1, v, by rw [e]; exact h2, h3, hb d f ys rfl v h4 st2⟩
  | callS d f ys =>
    obtain ⟨h1, h2, v, h3, h4⟩ := hk
    have e : ys.map st2.val = ys.map st.val := List.map_congr_left (fun y hy => fx_val h (hx y hy))
    exact ⟨by rw [e]; exact h1, by rw [e]; exact h2, v, by rw [e]; exact h3, hs d f ys rfl v h4 st2⟩
  | callF d y ys =>
    obtain ⟨g, cs, h0, h1, h2, h3, h4, v, h5, h6⟩ := hk
    have e : ys.map st2.val = ys.map st.val := List.map_congr_left (fun y hy => fx_val h (hx y (by simp only [XOp.ns, List.mem_cons]; exact .inr hy)))
    exact ⟨g, cs, by rw [fx_val h (hx y (by simp [XOp.ns]))]; exact h0, h1, by rw [e]; exact h2, h3, by rw [e]; exact h4, v, by rw [e]; exact h5, hf d y ys rfl v h6 st2⟩
  | callM d f l1 k l2 =>
    have tms : ∀ q, (k = .tmpS q ∨ ∃ y, k = .ptrS y q) → FootX F st (.t q) → (∀ y ∈ l1.map (·.1) ++ l2.map (·.1), FootX F st y) → callMTS P d f (l1.map (·.1)) q (l2.map (·.1)) st (fun st' => st' = st.upds us) → callMTS P d f (l1.map (·.1)) q (l2.map (·.1)) st2 (fun st' => st' = st2.upds us) := by
      intro q hkq hq hy hk
      have e1 : (l1.map (·.1)).map st2.val = (l1.map (·.1)).map st.val := List.map_congr_left (fun y hy' => fx_val h (hy y (List.mem_append.2 (.inl hy'))))
      have e2 : (l2.map (·.1)).map st2.val = (l2.map (·.1)).map st.val := List.map_congr_left (fun y hy' => fx_val h (hy y (List.mem_append.2 (.inr hy'))))
      obtain ⟨g1, g2, g3, g4, R, g5, g6⟩ := hk
      have hh := hm1 d f l1 k q l2 rfl (.inr (.inr hkq))
      refine ⟨g1, by rw [e1]; exact g2, by rw [e2]; exact g3, by rw [e1, e2, fx_at h hq]; exact g4, R, by rw [e1, e2, fx_at h hq]; exact g5, fun res outs hr => ?_⟩
      exact (g6 res outs hr).imp (fun k => hh.1 _ k st2) (fun ⟨ov, k3, k5, k6⟩ => ⟨ov, k3, by rw [fx_at h hq]; exact k5, hh.2 _ _ k6 st2⟩)
    have tm : ∀ q, (k = .tmp q ∨ ∃ y, k = .ptr y q) → FootX F st (.t q) → (∀ y ∈ l1.map (·.1) ++ l2.map (·.1), FootX F st y) → callMT P d f l1 q l2 st (fun st' => st' = st.upds us) → callMT P d f l1 q l2 st2 (fun st' => st' = st2.upds us) := by
      intro q hkq hq hy hk
      have e1 := fx_bvs (fx_put h hq.1 .hole) (ys := l1) (fun y hy' => footX_put (hy y (List.mem_append.2 (.inl hy'))) q)
      have e2 := fx_bvs (fx_put h hq.1 .hole) (ys := l2) (fun y hy' => footX_put (hy y (List.mem_append.2 (.inr hy'))) q)
      obtain ⟨g1, g2, g3, g4, R, g5, g6⟩ := hk
      have hh := hm1 d f l1 k q l2 rfl (hkq.imp id .inl)
      refine ⟨g1, by rw [e1]; exact g2, by rw [e2]; exact g3, by rw [fx_at h hq]; exact g4, R, by rw [e1, e2, fx_at h hq]; exact g5, fun res outs hr => ?_⟩
      obtain ⟨k1, k2⟩ := g6 res outs hr
      refine ⟨k1, k2.imp (fun k => hh.1 _ k st2) (fun ⟨ov, k3, k4, k5, k6⟩ => ⟨ov, k3, k4, by rw [fx_at h hq]; exact k5, hh.2 _ _ k6 st2⟩)⟩
    cases k with
    | tmp q => exact tm q (.inl rfl) (hx (.t q) (by simp [XOp.ns])) (fun y hy => hx y (by simp only [XOp.ns, List.mem_cons]; exact .inr hy)) hk
    | ptr y q =>
      have hq := hx (.t q) (by simp [XOp.ns])
      have hy := hx y (by simp [XOp.ns])
      refine ⟨?_, tm q (.inr ⟨y, rfl⟩) hq (fun y hy => hx y (by simp only [XOp.ns, List.mem_cons]; exact .inr (.inr hy))) hk.2⟩
      have := hk.1
      simp only [St.whole, fx_res h hy, fx_resH h hy, fx_at h hq]
      exact this
    | tmpS q => exact tms q (.inl rfl) (hx (.t q) (by simp [XOp.ns])) (fun y hy => hx y (by simp only [XOp.ns, List.mem_cons]; exact .inr hy)) hk
    | ptrS y q =>
      have hq := hx (.t q) (by simp [XOp.ns])
      have hy := hx y (by simp [XOp.ns])
      refine ⟨?_, tms q (.inr ⟨y, rfl⟩) hq (fun y hy => hx y (by simp only [XOp.ns, List.mem_cons]; exact .inr (.inr hy))) hk.2⟩
      have := hk.1
      simp only [St.whole, fx_res h hy, fx_resH h hy, fx_at h hq]
      exact this
    | tmp2 q q2 =>
      have hq := hx (.t q) (by simp [XOp.ns])
      have hq2 := hx (.t q2) (by simp [XOp.ns])
      obtain ⟨g1, g2, g3, g4, g5, R, g6, g7⟩ := hk
      have e0 := fx_put (fx_put h hq.1 .hole) hq2.1 .hole
      have e1 := fx_bvs e0 (ys := l1) (fun y hy => footX_put (footX_put (hx y (by simp only [XOp.ns, List.mem_cons, List.mem_append]; exact .inr (.inr (.inl hy)))) q) q2)
      have e2 := fx_bvs e0 (ys := l2) (fun y hy => footX_put (footX_put (hx y (by simp only [XOp.ns, List.mem_cons, List.mem_append]; exact .inr (.inr (.inr hy)))) q) q2)
      exact ⟨g1, by rw [e1]; exact g2, by rw [e2]; exact g3, by rw [fx_at h hq]; exact g4, by rw [fx_at h hq2]; exact g5, R, by rw [e1, e2, fx_at h hq, fx_at h hq2]; exact g6, fun res outs hr => (g7 res outs hr).imp id fun k => k.imp (fun k => (hm4 d f l1 q q2 l2 rfl).1 _ k st2) fun ⟨ov, k3, k4, k5, k6⟩ => ⟨ov, k3, k4, by rw [fx_at h hq]; exact k5, (hm4 d f l1 q q2 l2 rfl).2 _ _ k6 st2⟩⟩
    | agg y r =>
      have hr := hx (.t r) (by simp [XOp.ns])
      have hy := hx y (by simp [XOp.ns])
      obtain ⟨g1, n, g, p, cs, vs, as, g2, gg, gl, g3, g4, g5, g6, g7, g8, R, g9, g10⟩ := hk
      have e1 := fx_bvs (fx_put h hr.1 .hole) (ys := l1) (fun y hy => footX_put (hx y (by simp only [XOp.ns, List.mem_cons, List.mem_append]; exact .inr (.inr (.inl hy)))) r)
      have e2 := fx_bvs (fx_put h hr.1 .hole) (ys := l2) (fun y hy => footX_put (hx y (by simp only [XOp.ns, List.mem_cons, List.mem_append]; exact .inr (.inr (.inr hy)))) r)
      refine ⟨g1, n, g, p, cs, vs, as, by rw [fx_at h hr]; exact g2, gg, gl, by rw [fx_val h hy]; exact g3, g4, by rw [fx_at h hr]; exact g5, g6, by rw [e1]; exact g7, by rw [e2]; exact g8, R, by rw [e1, e2]; exact g9, fun res outs hres => ?_⟩
      obtain ⟨k1, os, k2, k3, k4, k5⟩ := g10 res outs hres
      exact ⟨k1, os, k2, k3, k4, by rw [fx_at h hr]; exact hm2 d f l1 y r l2 rfl _ _ k5 st2⟩
    | aggS y r z =>
      have hz := hx (.t z) (by simp [XOp.ns])
      have hr := hx (.t r) (by simp [XOp.ns])
      have hy := hx y (by simp [XOp.ns])
      obtain ⟨g1, q1, q2, ss, bs, q3, q4, n, g, p, cs, vs, as, g2, gg, gl, g3, g4, g5, g6, g7, g8, R, g9, g10⟩ := hk
      have e1 := fx_bvs (fx_put h hr.1 .hole) (ys := l1) (fun y hy => footX_put (hx y (by simp only [XOp.ns, List.mem_cons, List.mem_append]; exact .inr (.inr (.inr (.inl hy))))) r)
      have e2 := fx_bvs (fx_put h hr.1 .hole) (ys := l2) (fun y hy => footX_put (hx y (by simp only [XOp.ns, List.mem_cons, List.mem_append]; exact .inr (.inr (.inr (.inr hy))))) r)
      refine ⟨g1, q1, q2, ss, bs, by rw [fx_at h hz]; exact q3, by rw [fx_at h hr]; exact q4, n, g, p, cs, vs, as, by rw [fx_at h hr]; exact g2, gg, gl, by rw [fx_val h hy]; exact g3, g4, by rw [fx_at h hr]; exact g5, g6, by rw [e1]; exact g7, by rw [e2]; exact g8, R, by rw [e1, e2]; exact g9, fun res outs hres => ?_⟩
      obtain ⟨k1, os, k2, k3, k4, k5⟩ := g10 res outs hres
      exact ⟨k1, os, k2, k3, k4, by rw [fx_at h hr]; exact hm3 d f l1 y r z l2 rfl _ _ _ k5 st2⟩
  | nilq d neg y => exact absurd rfl (hnq d neg y)
  | _ =>
    have e := stepU_congr h _ hx
    simp only [stepX] at hk ⊢
    rw [e]
    unfold onU at hk ⊢
    split at hk
    · rename_i us0 h0
      rw [hU _ h0]
    · exact hk.elim

/-- What is known of a step's turns. -/
def CallU (x : XOp) (st : St) (us : List Upd) : Prop :=
  match x with
  | .callB d _ _ => ∃ v, us = [⟨d, .pu, v⟩]
  | .callS d _ _ => ∃ v, us = [⟨d, .pu, v⟩]
  | .callF d _ _ => ∃ v, us = [⟨d, .pu, v⟩]
  | .callM d _ _ (.tmp q) _ => d ≠ q ∧ ((∃ v, us = [⟨q, .pu, .hole⟩, ⟨d, .pu, v⟩]) ∨ ∃ o v, us = [⟨q, .mo, o⟩, ⟨d, .pu, v⟩])
  | .callM d _ _ (.ptr _ q) _ => d ≠ q ∧ ((∃ v, us = [⟨q, .pu, .hole⟩, ⟨d, .pu, v⟩]) ∨ ∃ o v, us = [⟨q, .mo, o⟩, ⟨d, .pu, v⟩])
  | .callM d _ _ (.tmpS q) _ => d ≠ q ∧ ((∃ v, us = [⟨q, .pu, .hole⟩, ⟨d, .pu, v⟩]) ∨ ∃ o v, us = [⟨q, .mo, o⟩, ⟨d, .pu, v⟩])
  | .callM d _ _ (.ptrS _ q) _ => d ≠ q ∧ ((∃ v, us = [⟨q, .pu, .hole⟩, ⟨d, .pu, v⟩]) ∨ ∃ o v, us = [⟨q, .mo, o⟩, ⟨d, .pu, v⟩])
  | .callM d _ _ (.aggS _ r z) _ => d ≠ r ∧ z ≠ r ∧ z ≠ d ∧ ∃ o v q, us = [⟨r, .mo, o⟩, ⟨d, .pu, v⟩, ⟨z, .mo, q⟩]
  | .callM d _ _ (.tmp2 q q2) _ => (d ≠ q ∧ d ≠ q2 ∧ q ≠ q2) ∧ ((∃ v, us = [⟨q, .pu, .hole⟩, ⟨q2, .pu, .hole⟩, ⟨d, .pu, v⟩]) ∨ ∃ o v, us = [⟨q2, .pu, .hole⟩, ⟨q, .mo, o⟩, ⟨d, .pu, v⟩])
  | .callM d _ _ (.agg _ r) _ => d ≠ r ∧ ∃ o v, us = [⟨r, .mo, o⟩, ⟨d, .pu, v⟩]
  | x => stepU x st = some us
theorem put_inj {st : St} {d : Nat} {v v' : V} (h : st.put d v = st.put d v') : v = v' := by
  have := congrFun h d
  simpa [St.put] using this
theorem two_inj {st : St} {q d : Nat} {p p' : UK} {o o' v v' : V} (hd : d ≠ q) (h : st.upds [⟨q, p, o⟩, ⟨d, .pu, v⟩] = st.upds [⟨q, p', o'⟩, ⟨d, .pu, v'⟩]) : p = p' ∧ o = o' ∧ v = v' := by
  have h1 := congrFun h d
  have h2 := congrFun h q
  rw [upds_at, upds_at] at h1 h2
  have e1 : ∀ (p : UK) (o v : V), ([⟨q, p, o⟩, ⟨d, .pu, v⟩] : List Upd).filter (fun u => decide (u.t = d)) = [⟨d, .pu, v⟩] := fun p o v => by simp [Ne.symm hd]
  have e2 : ∀ (p : UK) (o v : V), ([⟨q, p, o⟩, ⟨d, .pu, v⟩] : List Upd).filter (fun u => decide (u.t = q)) = [⟨q, p, o⟩] := fun p o v => by simp [hd]
  rw [e1, e1] at h1
  rw [e2, e2] at h2
  simp only [List.foldl_cons, List.foldl_nil, Cell.upd, if_true] at h1 h2
  refine ⟨?_, ?_, by simpa using h1⟩
  · cases p <;> cases p' <;> simp at h2 ⊢ <;> omega
  · cases p <;> cases p' <;> simp at h2 <;> first | exact h2 | exact h2.1 | omega

theorem three_inj {st : St} {q d z : Nat} {o o' v v' x x' : V} (hd : d ≠ q) (hz : z ≠ q) (hzd : z ≠ d) (h : st.upds [⟨q, .mo, o⟩, ⟨d, .pu, v⟩, ⟨z, .mo, x⟩] = st.upds [⟨q, .mo, o'⟩, ⟨d, .pu, v'⟩, ⟨z, .mo, x'⟩]) : o = o' ∧ v = v' ∧ x = x' := by
  have h1 := congrFun h d
  have h2 := congrFun h q
  have h3 := congrFun h z
  rw [upds_at, upds_at] at h1 h2 h3
  have e1 : ∀ (o v x : V), ([⟨q, .mo, o⟩, ⟨d, .pu, v⟩, ⟨z, .mo, x⟩] : List Upd).filter (fun u => decide (u.t = d)) = [⟨d, .pu, v⟩] := fun o v x => by simp [Ne.symm hd, hzd]
  have e2 : ∀ (o v x : V), ([⟨q, .mo, o⟩, ⟨d, .pu, v⟩, ⟨z, .mo, x⟩] : List Upd).filter (fun u => decide (u.t = q)) = [⟨q, .mo, o⟩] := fun o v x => by simp [hd, hz]
  have e3 : ∀ (o v x : V), ([⟨q, .mo, o⟩, ⟨d, .pu, v⟩, ⟨z, .mo, x⟩] : List Upd).filter (fun u => decide (u.t = z)) = [⟨z, .mo, x⟩] := fun o v x => by simp [Ne.symm hz, Ne.symm hzd]
  rw [e1, e1] at h1
  rw [e2, e2] at h2
  rw [e3, e3] at h3
  simp only [List.foldl_cons, List.foldl_nil, Cell.upd, if_true] at h1 h2 h3
  refine ⟨by simpa using h2, by simpa using h1, by simpa using h3⟩

theorem stepX_far {P : Program} {us : List Upd} (h : ∀ t, F t → st2 t = st t) (x : XOp) (hx : ∀ y ∈ x.ns, FootX F st y) (hnq : ∀ d neg y, x ≠ .nilq d neg y) (hc : CallU x st us) (hk : stepX P x st fun st' => st' = st.upds us) :
    stepX P x st2 fun st' => st' = st2.upds us := by
  refine stepX_congr h x hx hnq ?_ ?_ ?_ ?_ ?_ ?_ ?_ ?_ hk
  · intro d f ys e v hv s
    subst e
    obtain ⟨v', rfl⟩ := hc
    have := put_inj (show st.put d v = st.put d v' from hv)
    subst this; rfl
  · intro d f ys e v hv s
    subst e
    obtain ⟨v', rfl⟩ := hc
    have := put_inj (show st.put d v = st.put d v' from hv)
    subst this; rfl
  · intro d f l1 k q l2 e hkq
    subst e
    have hc : d ≠ q ∧ ((∃ v, us = [⟨q, .pu, .hole⟩, ⟨d, .pu, v⟩]) ∨ ∃ o v, us = [⟨q, .mo, o⟩, ⟨d, .pu, v⟩]) := by
      rcases hkq with rfl | ⟨y, rfl⟩ | rfl | ⟨y, rfl⟩
      · exact hc
      · exact hc
      · exact hc
      · exact hc
    obtain ⟨hd, ⟨v', rfl⟩ | ⟨o', v', rfl⟩⟩ := hc
    · refine ⟨fun v hv s => ?_, fun o v hv s => ?_⟩
      · obtain ⟨_, _, rfl⟩ := two_inj (p := .pu) (o := .hole) hd (show st.upds [⟨q, .pu, .hole⟩, ⟨d, .pu, v⟩] = _ from hv); rfl
      · have := (two_inj (p := .mo) (o := o) hd (show st.upds [⟨q, .mo, o⟩, ⟨d, .pu, v⟩] = _ from hv)).1
        cases this
    · refine ⟨fun v hv s => ?_, fun o v hv s => ?_⟩
      · have := (two_inj (p := .pu) (o := .hole) hd (show st.upds [⟨q, .pu, .hole⟩, ⟨d, .pu, v⟩] = _ from hv)).1
        cases this
      · obtain ⟨_, rfl, rfl⟩ := two_inj (p := .mo) (o := o) hd (show st.upds [⟨q, .mo, o⟩, ⟨d, .pu, v⟩] = _ from hv); rfl
  · intro d f l1 y r l2 e o v hv s
    subst e
    obtain ⟨hd, o', v', rfl⟩ := hc
    obtain ⟨_, rfl, rfl⟩ := two_inj (p := .mo) (o := o) hd (show st.upds [⟨r, .mo, o⟩, ⟨d, .pu, v⟩] = _ from hv); rfl
  · intro d f l1 y r z l2 e o v q hv s
    subst e
    obtain ⟨hd, hz, hzd, o', v', q', rfl⟩ := hc
    obtain ⟨rfl, rfl, rfl⟩ := three_inj hd hz hzd (show st.upds [⟨r, .mo, o⟩, ⟨d, .pu, v⟩, ⟨z, .mo, q⟩] = _ from hv); rfl
  · intro d f l1 q q2 l2 e
    subst e
    obtain ⟨⟨hd1, hd2, hqq⟩, ⟨v', rfl⟩ | ⟨o', v', rfl⟩⟩ := hc
    · refine ⟨fun v hv s => ?_, fun o v hv s => ?_⟩
      · have := put_inj (show ((st.put q .hole).put q2 .hole).put d v = ((st.put q .hole).put q2 .hole).put d v' from hv)
        subst this; rfl
      · have h1 := congrFun (show ((st.put q2 .hole).mod q o).put d v = ((st.put q .hole).put q2 .hole).put d v' from hv) q
        have h2 := congrArg Cell.ver h1
        simp [St.put, St.mod, Ne.symm hd1, hqq] at h2
    · refine ⟨fun v hv s => ?_, fun o v hv s => ?_⟩
      · have h1 := congrFun (show ((st.put q .hole).put q2 .hole).put d v = ((st.put q2 .hole).mod q o').put d v' from hv) q
        have h2 := congrArg Cell.ver h1
        simp [St.put, St.mod, Ne.symm hd1, hqq] at h2
      · have e0 : ((st.put q2 .hole).mod q o).put d v = ((st.put q2 .hole).mod q o').put d v' := hv
        have h1 := congrArg Cell.v (congrFun e0 q)
        have h2 := congrArg Cell.v (congrFun e0 d)
        simp [St.put, St.mod, Ne.symm hd1, hqq] at h1 h2
        subst h1 h2; rfl
  · intro d f ys e v hv s
    subst e
    obtain ⟨v', rfl⟩ := hc
    have := put_inj (show st.put d v = st.put d v' from hv)
    subst this; rfl
  · intro us0 h0
    cases x with
    | callB d f ys => simp [stepU] at h0
    | callF d y ys => simp [stepU] at h0
    | callS d f ys => simp [stepU] at h0
    | callM d f l1 k l2 => simp [stepU] at h0
    | _ => exact Option.some.inj (h0.symm.trans hc)
end
end Go.Proofs.YtainknkfjekngaaDoor.Vm
