/- Stores; what is taken out of a place, or given up; slices' elements. -/
import Derived.Test.YtainknkfjekngaaDoorVm5
namespace Go.Proofs.YtainknkfjekngaaDoor.Vm
open Go
set_option linter.unusedVariables false
set_option linter.unusedSimpArgs false

theorem pres_setCell (w : World) (b x : Nat) (v : Value) : Pres (CS.row b x 1) w (w.setCell ⟨b, x, none⟩ v) := by
  refine ⟨rfl, rfl, by simp [World.setCell], fun b' o h => ?_⟩
  by_cases e : b' = b
  · subst e
    cases o with
    | cells c t f =>
      refine ⟨.cells (c.setIfInBounds x v) t f, ?_, .inr (.inr ⟨c, _, t, f, rfl, rfl, by simp, fun y hy => ?_⟩)⟩
      · simp only [World.setCell, Array.getElem?_modify, if_true, h, Option.map_some]; rfl
      · rw [Array.getElem?_setIfInBounds_ne]
        rintro rfl
        exact hy ⟨rfl, by omega, by omega⟩
    | _ => exact ⟨_, by simp only [World.setCell, Array.getElem?_modify, if_true, h, Option.map_some], .refl _ _⟩
  · refine ⟨o, ?_, .refl _ _⟩
    simp only [World.setCell, Array.getElem?_modify, if_neg (Ne.symm e)]; exact h

theorem pres_setCells (b : Nat) : ∀ (vs : List Value) (x : Nat) (w : World), Pres (CS.row b x vs.length) w (w.setCells b x vs)
  | [], x, w => Pres.refl _ _
  | v :: vs, x, w => by
    refine ((pres_setCell w b x v).mono (fun b' y _ h => ?_)).trans (pres_setCells b vs (x + 1) _) (fun b' y _ h => ?_)
    · obtain ⟨rfl, h1, h2⟩ := h; exact ⟨rfl, h1, by simp; omega⟩
    · obtain ⟨rfl, h1, h2⟩ := h; exact ⟨rfl, by omega, by simp; omega⟩
theorem plb_setCells {b : Nat} {vs : List Value} {x : Nat} {w : World} {b' : Nat} (h : PlB w b') : PlB (w.setCells b x vs) b' :=
  (pres_setCells b vs x w).plb (x := x + vs.length) (fun h => by obtain ⟨_, _, h3⟩ := h; omega) h

section
variable {P : Program} {B : Base P} {N : Nat} {st : St} {a : Act} {w : World} {S : CS} {fp : Nat → CS}

theorem run_storeAt {T : Nat} (b x : Nat) (v : Value) (w : World) (hi : (P.info? T).isSome = true) (hn : P.cellsOf T = v.cells.toList.length) (h1 : ∀ u ∈ v.cells.toList, u.oneCell' = true)
    (hc : ∀ j, j < v.cells.toList.length → (w.cell? ⟨b, x + j, none⟩).isSome = true ∧ w.frozen? ⟨b, x + j, none⟩ = false) :
    (Instr.storeAt T (.pointer (some ⟨b, x, none⟩)) v).run P w = .ok () (w.setCells b x v.cells.toList) := by
  obtain ⟨i, hi⟩ := Option.isSome_iff_exists.1 hi
  have hs : i.size = v.cells.size := by simpa [Program.cellsOf, hi] using hn
  have := run_storeCells_cells (P := P) b x v.cells.toList 0 w (by simpa using fun j hj => (hc j (by simpa using hj)).1) (by simpa using fun j hj => (hc j (by simpa using hj)).2) h1
  simp only [Nat.add_zero] at this
  simp [Instr.storeAt, Instr.sureAddr, storeVar, run_sizeOf' hi, hs, this]

/-- The cells of a place are written anew. -/
theorem Rl.write (h : Rl B N st a w S fp) {r n b x : Nat} {p : List (Nat × Nat)} {cs cs' : List V} {us' : List Value} {G : CS} (hget : (st r).v.getR n p = some cs) (ha : addr w (st r).v (tm a r) p = some (b, x))
    (hl : cs'.length = n) (hr : RL w S (AlOk w a st) cs' us' G) (hG : ∀ i, G.dj (fp i)) (hGS : G.dj S) (hGlt : ∀ b x, G b x → b < w.heap.size) (hGO : ∀ b x, G b x → B.O0 b x ∨ fresh B.w0 b x) :
    Rl B N (st.mod r ((st r).v.setR p cs')) a (w.setCells b x us') S (fun i => if i = r then (fp r).un G else fp i) ∧
      (∀ j, j < n → (w.cell? ⟨b, x + j, none⟩).isSome = true ∧ w.frozen? ⟨b, x + j, none⟩ = false) := by
  obtain ⟨b', x', us, F1, put, ha', hf, hput, hlen⟩ := h.getR hget
  rw [ha] at ha'
  obtain ⟨rfl, rfl⟩ : b = b' ∧ x = x' := by simpa using ha'
  have hul := RL.length hr
  have hul0 := RL.length hf.rl
  have hrow : ∀ y, x ≤ y → y < x + n → fp r b y := fun y h1 h2 => by
    have := (hf.cells (y - x) (by omega)).1
    rwa [show x + (y - x) = y by omega] at this
  have hp : Pres (CS.row b x n) w (w.setCells b x us') := by
    have := pres_setCells b us' x w
    rwa [hul, hl] at this
  have hcells : ∀ j, j < n → (w.cell? ⟨b, x + j, none⟩).isSome = true ∧ w.frozen? ⟨b, x + j, none⟩ = false := fun j hj => by
    obtain ⟨h1, h2, h3⟩ := hf.cells j (by omega)
    exact ⟨by rw [h2, List.getElem?_eq_getElem (by omega)]; rfl, h3⟩
  refine ⟨h.mod r _ (S' := S) ((fp r).un G) hp ?_ (CS.le.refl _) (fun b x hs => ⟨Nat.lt_of_lt_of_le (h.ltS b x hs) hp.size, h.shr b x hs⟩) (fun i _ => h.djS i) (fun u i => setR_place _ _ _ _ _) ?_ ?_ ?_ ?_ ?_, hcells⟩
  · rintro b' y ⟨rfl, h1, h2⟩
    have hy := hrow y h1 h2
    exact ⟨h.own r _ _ hy, fun i hi hh => h.dj r i (Ne.symm hi) _ _ hy hh, fun hh => h.djS r _ _ hy hh⟩
  · intro hA
    have hagS : Agree w (w.setCells b x us') S := hp.agree h.ltS (fun b' y hs hr => by obtain ⟨rfl, h1, h2⟩ := hr; exact h.djS r _ _ (hrow y h1 h2) hs)
    have hb := hf.back (w.setCells b x us') S _ cs' us' G (CS.le.refl _) hA hagS (hp.agree (fun b' y hy => h.lt r _ _ hy.1) (fun b' y hy hr => hy.2 (.inr (by rw [hlen]; exact hr)))) (by omega) (fun j hj => ?_) (fun _ => plb_setCells) ?_ (fun b' y h1 h2 => hG r _ _ h1 h2.1)
    · rw [hput cs' hl] at hb
      exact hb.mono (fun b' y hy => hy.imp (fun h => h.1) id)
    · refine ⟨?_, ?_⟩
      · rw [World.cell?_setCells_in b us' x w (fun k hk => (hcells k (by omega)).1) j (by omega), List.getElem?_eq_getElem (by omega)]
      · obtain ⟨h1, h2, h3⟩ := hf.cells j hj
        rw [World.frozen?_setCells]; exact h3
    · exact RL.frame (CS.le.refl _) hA hagS _ _ _ _ (CS.le.refl _) (hp.agree hGlt (fun b' y hg hr => by obtain ⟨rfl, h1, h2⟩ := hr; exact hG r _ _ hg (hrow y h1 h2))) hr
  · intro i hi b' y h1 h2
    rcases h1 with h1 | h1
    · exact h.dj r i (Ne.symm hi) _ _ h1 h2
    · exact hG i _ _ h1 h2
  · intro b' y h1 h2
    rcases h1 with h1 | h1
    · exact h.djS r _ _ h1 h2
    · exact hGS _ _ h1 h2
  · intro b' y h1
    rcases h1 with h1 | h1
    · exact Nat.lt_of_lt_of_le (h.lt r _ _ h1) hp.size
    · exact Nat.lt_of_lt_of_le (hGlt _ _ h1) hp.size
  · intro b' y h1
    rcases h1 with h1 | h1
    · exact h.own r _ _ h1
    · exact hGO _ _ h1

theorem ot_store_cp {o : Oper} {T m m' n r : Nat} {x v : Operand} {y z : XO} {p : List (Nat × Nat)} {cs cs' : List V} {K : St → Prop} (ho : o.op = .store T x v) (hd : o.dst = none) (hx : cO m x = some y) (hv : cO m' v = some z)
    (hi : (P.info? T).isSome = true) (hn : P.cellsOf T = n) (hr : st.res y = some (r, p)) (hget : (st r).v.getR n p = some cs) (hcp : (st.val z).cp = true) (hcs : (st.val z).cells = some cs') (hl : cs'.length = n)
    (hk : K (st.mod r ((st r).v.setR p cs'))) : OT P N o st K := by
  intro B a w S fp next Q h hnx
  obtain ⟨b, x, ha, he⟩ := h.res hx hr
  obtain ⟨hrl, h1⟩ := V.cells_spec (RV.cp_none _ _ _ hcp (h.val hv)) hcs
  have hul := RL.length hrl
  obtain ⟨hw, hc⟩ := h.write hget ha hl hrl (fun _ => CS.none_dj _) (CS.none_dj _) (fun _ _ h => h.elim) (fun _ _ h => h.elim)
  unfold Oper.wp
  have hrun : (execOp a.eval o).run P w = .ok .skip (w.setCells b x (a.eval v).cells.toList) := by
    have := run_storeAt (P := P) (T := T) b x (a.eval v) w hi (by omega) h1 (fun j hj => hc j (by omega))
    simp only [execOp, ho, he, Sem.run_bind, this]; rfl
  rw [hrun]
  show next (a.put o.dst undef) _
  rw [hd]
  exact hnx _ _ _ _ _ hk hw

theorem drop_val (st : St) (r t : Nat) (h : t ≠ r) : (st.put r .hole) t = st t := by simp [St.put, h]

theorem ot_store_tk {o : Oper} {T m n r q : Nat} {x : Operand} {y : XO} {p : List (Nat × Nat)} {cs cs' : List V} {K : St → Prop} (ho : o.op = .store T x (.tmp q)) (hd : o.dst = none) (hx : cO m x = some y)
    (hi : (P.info? T).isSome = true) (hn : P.cellsOf T = n) (hr : st.res y = some (r, p)) (hqr : q ≠ r) (hget : (st r).v.getR n p = some cs) (hcs : (st q).v.cells = some cs') (hl : cs'.length = n)
    (hk : K ((st.put q .hole).mod r ((st r).v.setR p cs'))) : OT P N o st K := by
  intro B a w S fp next Q h hnx
  obtain ⟨b, x, ha, he⟩ := h.res hx hr
  have hv := RV.frame (CS.le.refl _) (fun x u h => AlOk.drop q h) (Agree.refl _ _) _ _ _ _ (CS.le.refl _) (Agree.refl _ _) (h.rv q)
  obtain ⟨hrl, h1⟩ := V.cells_spec hv hcs
  have hul := RL.length hrl
  have hst : (st.put q .hole) r = st r := drop_val st q r (Ne.symm hqr)
  obtain ⟨hw, hc⟩ := (h.drop q).write (r := r) (p := p) (by rw [hst]; exact hget) (by rw [hst]; exact ha) hl hrl (fun i => dj_drop h q i) (h.djS q) (h.lt q) (h.own q)
  rw [hst] at hw
  unfold Oper.wp
  have hrun : (execOp a.eval o).run P w = .ok .skip (w.setCells b x (tm a q).cells.toList) := by
    have := run_storeAt (P := P) (T := T) b x (tm a q) w hi (by omega) h1 (fun j hj => hc j (by omega))
    have hq : a.eval (.tmp q) = tm a q := rfl
    simp only [execOp, ho, he, hq, Sem.run_bind, this]; rfl
  rw [hrun]
  show next (a.put o.dst undef) _
  rw [hd]
  exact hnx _ _ _ _ _ hk hw

/-- The place is turned without a write: what it owned is taken out, or given up. -/
theorem Rl.leave (h : Rl B N st a w S fp) {r n : Nat} {p : List (Nat × Nat)} {cs cs' : List V} (hget : (st r).v.getR n p = some cs) (hl : cs'.length = n)
    (hle : ∀ (w : World) (S : CS) (A : AlSem) us F, RL w S A cs us F → RL w S A cs' us CS.none) :
    ∃ (F : CS) (us : List Value) (b x : Nat), addr w (st r).v (tm a r) p = some (b, x) ∧ (∀ j, j < n → w.cell? ⟨b, x + j, none⟩ = us[j]?) ∧ us.length = n ∧ F.le (fp r) ∧ RL w S (AlOk w a st) cs us F ∧
      ∃ fr : CS, fr.le (fp r) ∧ fr.dj F ∧ Rl B N (st.mod r ((st r).v.setR p cs')) a w S (fun i => if i = r then fr else fp i) := by
  obtain ⟨b, x, us, F1, put, ha, hf, hput, hlen⟩ := h.getR hget
  have hul := RL.length hf.rl
  refine ⟨F1, us, b, x, ha, fun j hj => (hf.cells j (by omega)).2.1, by omega, hf.le, hf.rl, (fp r).minus F1, CS.minus_le _ _, CS.minus_dj _ _, ?_⟩
  -- the root again, its cells as they were; what F1 had is outside
  have hback : ∀ A', (∀ x u, AlOk w a st x u → A' x u) → RV w S A' ((st r).v.setR p cs') (tm a r) ((fp r).minus F1) := by
    intro A' hA
    have hb := hf.back w S A' cs' us CS.none (CS.le.refl _) hA (Agree.refl _ _) (Agree.refl _ _) (by omega) (fun j hj => (hf.cells j hj).2) (fun _ => id) (RL.frame (CS.le.refl _) hA (Agree.refl _ _) _ _ _ _ (CS.le.refl _) (Agree.refl _ _) (hle _ _ _ _ _ hf.rl)) (CS.none_dj _)
    rw [hput cs' hl] at hb
    exact hb.mono (fun b' y hy => hy.elim id (fun h => h.elim))
  exact h.mod r _ (O := CS.none) ((fp r).minus F1) (Pres.refl _ _) (fun _ _ h => h.elim) (CS.le.refl _) (fun b x hs => ⟨h.ltS b x hs, h.shr b x hs⟩) (fun i _ => h.djS i) (fun u i => setR_place _ _ _ _ _)
    (fun hA => hback _ hA) (fun i hi => (h.dj r i (Ne.symm hi)).mono (CS.minus_le _ _) (CS.le.refl _)) ((h.djS r).mono (CS.minus_le _ _) (CS.le.refl _)) (fun b x hx => h.lt r _ _ hx.1) (fun b x hx => h.own r _ _ hx.1)
end
end Go.Proofs.YtainknkfjekngaaDoor.Vm
