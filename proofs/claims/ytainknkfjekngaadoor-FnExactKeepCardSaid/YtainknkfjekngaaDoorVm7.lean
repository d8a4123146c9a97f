/- Taking out of a place and giving up; elements; lengths; parts of tuples. -/
import Derived.Test.YtainknkfjekngaaDoorVm6
namespace Go.Proofs.YtainknkfjekngaaDoor.Vm
open Go
set_option linter.unusedVariables false
set_option linter.unusedSimpArgs false

/-- What stays in a place when what it owned is taken out. -/
def V.rest (v : V) : V := if v.cp then v else .hole
theorem rest_cp (v : V) : v.rest.cp = true := by
  unfold V.rest; split
  · assumption
  · simp [V.cp]
theorem rl_rest {w : World} {S : CS} {A : AlSem} : ∀ {cs : List V} {us : List Value} {F : CS}, RL w S A cs us F → RL w S A (cs.map V.rest) us CS.none
  | [], _, _, h => h
  | v :: vs, _, F, h => by
    obtain ⟨u, ur, F1, F2, rfl, l1, l2, d, hv, hr⟩ := h
    refine ⟨u, ur, CS.none, CS.none, rfl, CS.none_le _, CS.none_le _, CS.none_dj _, ?_, rl_rest hr⟩
    unfold V.rest; split
    · rename_i hc; exact RV.cp_none v u F1 hc hv
    · trivial

theorem elem_setElem {v : V} {i : Nat} {cs X : List V} (h : v.elem i = some cs) (i' : Nat) : (v.setElem i X).elem i' = if i' = i then some X else v.elem i' := by
  cases v <;> simp only [V.elem, reduceCtorEq] at h
  · rename_i cs0
    split at h <;> cases h
    rename_i hi
    subst hi
    simp only [V.setElem, V.elem]
    by_cases e : i' = 0
    · rw [if_pos e, if_pos e]
    · rw [if_neg e, if_neg e, if_neg e]
  · rename_i own n es
    split at h <;> try (cases h; done)
    rename_i ho
    simp only [V.setElem, V.elem, ho, if_true]
    have hi : i < es.length := (List.getElem?_eq_some_iff.1 h).1
    by_cases e : i' = i
    · subst e
      rw [if_pos rfl, List.getElem?_set_self hi]
    · rw [if_neg e, List.getElem?_set_ne (Ne.symm e)]

theorem getR_len {n : Nat} : ∀ {p : List (Nat × Nat)} {v : V} {cs : List V}, v.getR n p = some cs → cs.length = n
  | [], _, _, h => by simp [V.getR] at h
  | [(i, k)], v, cs, h => by
    simp only [V.getR] at h
    cases he : v.elem i with
    | none => rw [he] at h; simp at h
    | some c0 =>
      rw [he] at h
      simp only [Option.bind_some] at h
      split at h <;> cases h
      simp; omega
  | (i, k) :: q :: p, v, cs, h => by
    simp only [V.getR] at h
    cases he : v.elem i with
    | none => rw [he] at h; simp at h
    | some c0 =>
      rw [he] at h
      simp only [Option.bind_some] at h
      cases hc : c0[k]? with
      | none => rw [hc] at h; simp at h
      | some c =>
        rw [hc] at h
        exact getR_len h
theorem getR_setR {n : Nat} : ∀ (p : List (Nat × Nat)) (v : V) (p' : List (Nat × Nat)) (xs cs c1 : List V), v.getR n p = some cs → xs.length = n → p'.length ≤ p.length → v.getR 1 p' = some c1 → ∃ c2, (v.setR p xs).getR 1 p' = some c2
  | [], _, _, _, _, _, h, _, _, _ => by simp [V.getR] at h
  | _, _, [], _, _, _, _, _, _, h => by simp [V.getR] at h
  | [(i, k)], v, [(i', k')], xs, cs, c1, h, hl, _, h1 => by
    simp only [V.getR] at h h1 ⊢
    simp only [V.setR]
    cases he : v.elem i with
    | none => rw [he] at h; simp at h
    | some cs0 =>
      rw [he] at h
      simp only [Option.bind_some] at h
      split at h <;> try (cases h; done)
      rename_i hle
      simp only [elem_setElem he]
      by_cases e : i' = i
      · subst e
        rw [he] at h1
        simp only [Option.bind_some] at h1
        split at h1 <;> try (cases h1; done)
        rename_i hle1
        rw [if_pos rfl]
        simp only [Option.bind_some]
        rw [if_pos (by simp; omega)]
        exact ⟨_, rfl⟩
      · rw [if_neg e]; exact ⟨_, h1⟩
  | [_], _, _ :: _ :: _, _, _, _, _, _, h, _ => by simp at h
  | (i, k) :: q :: p, v, [(i', k')], xs, cs, c1, h, hl, _, h1 => by
    simp only [V.getR] at h h1 ⊢
    simp only [V.setR]
    cases he : v.elem i with
    | none => exact ⟨_, h1⟩
    | some cs0 =>
      simp only
      cases hc : cs0[k]? with
      | none => exact ⟨_, h1⟩
      | some c =>
        simp only [elem_setElem he]
        by_cases e : i' = i
        · subst e
          rw [he] at h1
          simp only [Option.bind_some] at h1
          split at h1 <;> try (cases h1; done)
          rename_i hle1
          rw [if_pos rfl]
          simp only [Option.bind_some]
          rw [if_pos (by simpa using hle1)]
          exact ⟨_, rfl⟩
        · rw [if_neg e]; exact ⟨_, h1⟩
  | (i, k) :: q :: p, v, (i', k') :: q' :: p', xs, cs, c1, h, hl, hle, h1 => by
    simp only [V.getR] at h h1 ⊢
    simp only [V.setR]
    cases he : v.elem i with
    | none => exact ⟨_, h1⟩
    | some cs0 =>
      rw [he] at h
      simp only [Option.bind_some] at h
      simp only
      cases hc : cs0[k]? with
      | none => exact ⟨_, h1⟩
      | some c =>
        rw [hc] at h
        simp only [Option.bind_some] at h
        simp only [elem_setElem he]
        by_cases e : i' = i
        · subst e
          rw [he] at h1
          simp only [Option.bind_some] at h1
          rw [if_pos rfl]
          simp only [Option.bind_some]
          have hk : k < cs0.length := (List.getElem?_eq_some_iff.1 hc).1
          by_cases e2 : k' = k
          · subst e2
            rw [hc] at h1
            simp only [Option.bind_some] at h1
            rw [List.getElem?_set_self hk]
            simp only [Option.bind_some]
            exact getR_setR (q :: p) c (q' :: p') xs cs c1 h hl (by simp only [List.length_cons] at hle ⊢; omega) h1
          · rw [List.getElem?_set_ne (Ne.symm e2)]
            exact ⟨_, h1⟩
        · rw [if_neg e]; exact ⟨_, h1⟩

/-- The same cells, or holes for them. -/
def Hol (xs cs : List V) : Prop := xs.length = cs.length ∧ ∀ j : Nat, xs[j]? = cs[j]? ∨ xs[j]? = some V.hole
theorem hol_rest (cs : List V) : Hol (cs.map V.rest) cs := by
  refine ⟨by simp, fun j => ?_⟩
  rw [List.getElem?_map]
  cases h : cs[j]? with
  | none => exact .inl rfl
  | some c =>
    simp only [Option.map_some, V.rest]
    split
    · exact .inl rfl
    · exact .inr rfl
theorem hol_one (c : V) : Hol [V.hole] [c] := ⟨rfl, fun j => by
  cases j with
  | zero => exact .inr rfl
  | succ j => exact .inl (by simp)⟩
theorem hol_in {n k : Nat} {cs0 cs xs : List V} (h : k + n ≤ cs0.length) (hc : cs = (cs0.drop k).take n) (hx : Hol xs cs) (k' : Nat) :
    (cs0.take k ++ (xs ++ cs0.drop (k + xs.length)))[k']? = cs0[k']? ∨ (cs0.take k ++ (xs ++ cs0.drop (k + xs.length)))[k']? = some V.hole := by
  have hl : cs.length = n := by rw [hc]; simp; omega
  have hxl : xs.length = n := hx.1.trans hl
  have hk : (cs0.take k).length = k := by simp; omega
  by_cases h1 : k' < k
  · left
    rw [List.getElem?_append_left (by omega), List.getElem?_take_of_lt h1]
  · rw [List.getElem?_append_right (by omega), hk]
    by_cases h2 : k' - k < n
    · rw [List.getElem?_append_left (by omega)]
      rcases hx.2 (k' - k) with h3 | h3
      · left
        rw [h3, hc, List.getElem?_take_of_lt h2, List.getElem?_drop]
        congr 1; omega
      · exact .inr h3
    · left
      rw [List.getElem?_append_right (by omega), List.getElem?_drop, hxl]
      congr 1; omega
theorem take_path (w : World) {n : Nat} : ∀ (p p' : List (Nat × Nat)) (v : V) (u : Value) (cs xs : List V), v.getR n p = some cs → Hol xs cs → (v.setR p xs).pok p' = true →
    v.pok p' = true ∧ addr w (v.setR p xs) u p' = addr w v u p' ∧ ((∃ c, v.getR 1 p' = some c) → ∃ c, (v.setR p xs).getR 1 p' = some c)
  | p, [], _, _, _, _, _, _, _ => ⟨by simp [V.pok], rfl, fun ⟨c, h⟩ => by simp [V.getR] at h⟩
  | p, [(i', k')], v, u, cs, xs, h, hx, _ => by
    refine ⟨rfl, by simp only [addr, setR_place], fun ⟨c, hc⟩ => ?_⟩
    have hl : xs.length = n := hx.1.trans (getR_len h)
    cases p with
    | nil => simp [V.getR] at h
    | cons a p => exact getR_setR (a :: p) v [(i', k')] xs cs c h hl (by simp) hc
  | [], _ :: _ :: _, _, _, _, _, h, _, _ => by simp [V.getR] at h
  | [(i, k)], (i', k') :: q' :: p', v, u, cs, xs, h, hx, hp => by
    simp only [V.getR] at h
    cases he : v.elem i with
    | none => rw [he] at h; simp at h
    | some cs0 =>
      rw [he] at h
      simp only [Option.bind_some] at h
      split at h <;> try (cases h; done)
      rename_i hle
      have hcs := (Option.some.inj h).symm
      simp only [V.setR, he, V.pok, elem_setElem he] at hp ⊢
      simp only [addr, V.getR, setElem_place, elem_setElem he]
      by_cases e : i' = i
      · subst e
        rw [if_pos rfl] at hp ⊢
        rw [he]
        simp only [Option.bind_some] at hp ⊢
        rcases hol_in hle hcs hx k' with h1 | h1
        · rw [h1] at hp ⊢
          exact ⟨hp, rfl, fun h => h⟩
        · rw [h1] at hp
          simp [V.nh] at hp
      · rw [if_neg e] at hp ⊢
        exact ⟨hp, rfl, fun h => h⟩
  | (i, k) :: q :: p, (i', k') :: q' :: p', v, u, cs, xs, h, hx, hp => by
    simp only [V.getR] at h
    cases he : v.elem i with
    | none => rw [he] at h; simp at h
    | some cs0 =>
      rw [he] at h
      simp only [Option.bind_some] at h
      cases hc : cs0[k]? with
      | none => rw [hc] at h; simp at h
      | some c =>
        rw [hc] at h
        simp only [Option.bind_some] at h
        have hk : k < cs0.length := (List.getElem?_eq_some_iff.1 hc).1
        simp only [V.setR, he, hc, V.pok, elem_setElem he] at hp ⊢
        simp only [addr, V.getR, setElem_place, elem_setElem he]
        by_cases e : i' = i
        · subst e
          rw [if_pos rfl] at hp ⊢
          rw [he]
          simp only [Option.bind_some] at hp ⊢
          by_cases e2 : k' = k
          · subst e2
            rw [List.getElem?_set_self hk] at hp ⊢
            rw [hc]
            simp only [Bool.and_eq_true, Option.bind_some] at hp ⊢
            have hel : ∃ i0 x0, c.elem i0 = some x0 := by
              cases p with
              | nil =>
                obtain ⟨i0, k0⟩ := q
                simp only [V.getR] at h
                cases h0 : c.elem i0 with
                | none => rw [h0] at h; simp at h
                | some x0 => exact ⟨i0, x0, h0⟩
              | cons q2 p =>
                obtain ⟨i0, k0⟩ := q
                simp only [V.getR] at h
                cases h0 : c.elem i0 with
                | none => rw [h0] at h; simp at h
                | some x0 => exact ⟨i0, x0, h0⟩
            have hnh : c.nh = true := by
              obtain ⟨i0, x0, h0⟩ := hel
              cases c <;> first | rfl | simp [V.elem] at h0
            obtain ⟨g1, g2, g3⟩ := take_path w (q :: p) (q' :: p') c (match v.place u i' with | some bo => (w.cell? ⟨bo.1, bo.2 + k', none⟩).getD undef | none => undef) cs xs h hx hp.2
            refine ⟨⟨hnh, g1⟩, ?_, g3⟩
            cases hpl : v.place u i' with
            | none => rfl
            | some bo =>
              simp only [Option.bind_some]
              cases hu : w.cell? ⟨bo.1, bo.2 + k', none⟩ with
              | none => rfl
              | some u' =>
                simp only [Option.bind_some]
                rw [hpl] at g2
                simp only [hu, Option.getD_some] at g2
                exact g2
          · rw [List.getElem?_set_ne (Ne.symm e2)] at hp ⊢
            exact ⟨hp, rfl, fun h => h⟩
        · rw [if_neg e] at hp ⊢
          exact ⟨hp, rfl, fun h => h⟩

section
variable {P : Program} {B : Base P} {N : Nat} {st : St} {a : Act} {w : World} {S : CS} {fp : Nat → CS}
theorem AlOk.tk {x : Al} {u : Value} {r n : Nat} {p : List (Nat × Nat)} {cs xs : List V} (hg : (st r).v.getR n p = some cs) (hx : Hol xs cs) (h : AlOk w a st x u) : AlOk w a (st.tk r ((st r).v.setR p xs)) x u := by
  obtain ⟨h1, h2, h3⟩ := h
  by_cases e : x.root = r
  · refine ⟨?_, ?_, ?_⟩ <;> simp only [St.tk, e, if_true] at *
    · exact h1
    · exact h2
    · intro e1 e2 e5
      obtain ⟨g1, g2, g3⟩ := take_path w p x.pth (st r).v (tm a r) cs xs hg hx e5.2
      have hloc := h3 e1 e2 ⟨fun hb => by have := e5.1 hb; rwa [setR_place] at this, g1⟩
      match hp : x.ptr, hq : x.pth with
      | true, p' =>
        rw [hp, hq] at hloc
        rw [hq] at g2
        obtain ⟨b, y, k1, k2⟩ := hloc
        exact ⟨b, y, by rw [g2]; exact k1, k2⟩
      | false, [] => rw [hp, hq] at hloc; exact hloc
      | false, q :: p' =>
        rw [hp, hq] at hloc
        rw [hq] at g2 g3
        obtain ⟨b, y, k1, k2, k3⟩ := hloc
        exact ⟨b, y, by rw [g2]; exact k1, k2, g3 k3⟩
  · refine ⟨?_, ?_, ?_⟩ <;> simp only [St.tk, e, if_false]
    · exact h1
    · exact h2
    · exact h3
/-- A place leaves what it owns to another: holes stay, names stay true. -/
theorem Rl.take (h : Rl B N st a w S fp) {r n : Nat} {p : List (Nat × Nat)} {cs cs' : List V} (hget : (st r).v.getR n p = some cs) (hx : Hol cs' cs)
    (hle : ∀ (w : World) (S : CS) (A : AlSem) us F, RL w S A cs us F → RL w S A cs' us CS.none) :
    ∃ (F : CS) (us : List Value) (b x : Nat), addr w (st r).v (tm a r) p = some (b, x) ∧ (∀ j, j < n → w.cell? ⟨b, x + j, none⟩ = us[j]?) ∧ us.length = n ∧ F.le (fp r) ∧ RL w S (AlOk w a st) cs us F ∧
      ∃ fr : CS, fr.le (fp r) ∧ fr.dj F ∧ Rl B N (st.tk r ((st r).v.setR p cs')) a w S (fun i => if i = r then fr else fp i) := by
  obtain ⟨b, x, us, F1, put, ha, hf, hput, hlen⟩ := h.getR hget
  have hul := RL.length hf.rl
  have hl : cs'.length = n := hx.1.trans hlen
  refine ⟨F1, us, b, x, ha, fun j hj => (hf.cells j (by omega)).2.1, by omega, hf.le, hf.rl, (fp r).minus F1, CS.minus_le _ _, CS.minus_dj _ _, ?_⟩
  have hA : ∀ x u, AlOk w a st x u → AlOk w a (st.tk r ((st r).v.setR p cs')) x u := fun x u hh => AlOk.tk hget hx hh
  have hback : RV w S (AlOk w a (st.tk r ((st r).v.setR p cs'))) ((st r).v.setR p cs') (tm a r) ((fp r).minus F1) := by
    have hb := hf.back w S _ cs' us CS.none (CS.le.refl _) hA (Agree.refl _ _) (Agree.refl _ _) (by omega) (fun j hj => (hf.cells j hj).2) (fun _ => id) (RL.frame (CS.le.refl _) hA (Agree.refl _ _) _ _ _ _ (CS.le.refl _) (Agree.refl _ _) (hle _ _ _ _ _ hf.rl)) (CS.none_dj _)
    rw [hput cs' hl] at hb
    exact hb.mono (fun b' y hy => hy.elim id (fun h => h.elim))
  have hle' : ∀ i, (if i = r then (fp r).minus F1 else fp i).le (fp i) := fun i => by
    by_cases e : i = r
    · subst e; simpa using CS.minus_le _ _
    · simp only [e, if_false]; exact CS.le.refl _
  refine ⟨h.size, h.defers, fun i j hij => (h.dj i j hij).mono (hle' i) (hle' j), fun i => (h.djS i).mono (hle' i) (CS.le.refl _), fun i b x hx => h.lt i b x (hle' i b x hx), h.ltS, fun i => ?_, h.pres, h.s0, fun i b x hx => h.own i b x (hle' i b x hx), h.shr, fun i hi => ?_⟩
  · by_cases e : i = r
    · subst e
      simp only [St.tk, if_true]
      exact hback
    · simp only [St.tk, e, if_false]
      exact RV.frame (CS.le.refl _) hA (Agree.refl _ _) _ _ _ _ (CS.le.refl _) (Agree.refl _ _) (h.rv i)
  · by_cases e : i = r
    · subst e; simp [St.tk] at hi; exact h.keep i hi
    · simp [St.tk, e] at hi; exact h.keep i hi
end

section
variable {P : Program} {B : Base P} {N : Nat} {st : St} {a : Act} {w : World} {S : CS} {fp : Nat → CS}

theorem AlOk.mod {x : Al} {u : Value} (r : Nat) (V1 : V) (hpl : ∀ u i, V1.place u i = (st r).v.place u i) (h : AlOk w a st x u) : AlOk w a (st.mod r V1) x u := by
  obtain ⟨h1, h2, h3⟩ := h
  by_cases e : x.root = r
  · refine ⟨?_, ?_, ?_⟩ <;> simp only [St.mod, e, if_true] at *
    · exact h1
    · omega
    · intro e1 e2 e5
      rcases e2 with e2 | e2
      · have h4 := h3 e1 (.inl e2) ⟨fun hb => by have := e5.1 hb; rwa [hpl] at this, pok_short e2 _⟩
        simp only [Al.short, Bool.and_eq_true, decide_eq_true_eq] at e2
        obtain ⟨e2, e3⟩ := e2
        rw [e2] at h4 ⊢
        match hx : x.pth, e3 with
        | [(i, k)], _ =>
          rw [hx] at h4
          simp only [Loc, addr] at h4 ⊢
          rw [hpl]; exact h4
      · omega
  · refine ⟨?_, ?_, ?_⟩ <;> simp only [St.mod, e, if_false]
    · exact h1
    · exact h2
    · exact h3

theorem ot_load_tk {o : Oper} {d m T n r : Nat} {g : Bool} {x : Operand} {y : XO} {p : List (Nat × Nat)} {cs : List V} {K : St → Prop} (ho : o.op = .load T x) (hd : o.dst = some d) (hdN : d < N) (hx : cO m x = some y)
    (hg : isAggB P T = some g) (hi : (P.info? T).isSome = true) (hn : P.cellsOf T = n) (h1 : g = false → n = 1) (hr : st.res y = some (r, p)) (hdr : d ≠ r) (hget : (st r).v.getR n p = some cs)
    (hk : K ((st.tk r ((st r).v.setR p (cs.map V.rest))).put d (mkV g cs))) : OT P N o st K := by
  intro B a w S fp next Q h hnx
  obtain ⟨b, x, ha, he⟩ := h.res hx hr
  obtain ⟨_, _, _, _, _, _, _, _, hlen⟩ := h.getR hget
  obtain ⟨F, us, b', x', ha', hc, hul, hle, hrl, fr, hfr, hfd, hrl'⟩ := h.take (cs' := cs.map V.rest) hget (hol_rest cs) (fun w S A us F h => rl_rest h)
  rw [ha] at ha'
  obtain ⟨rfl, rfl⟩ : b = b' ∧ x = x' := by simpa using ha'
  have hrun := run_loadVar hg hn h1 us hul w hi hc
  unfold Oper.wp
  rw [show (execOp a.eval o).run P w = .ok (.value (if g then .agg us.toArray else us.getD 0 undef)) w by simp only [execOp, ho, he, Sem.run_bind, hrun]; rfl]
  show next (a.put o.dst _) _
  rw [hd]
  have hv := RL.frame (CS.le.refl _) (fun x u hx => AlOk.tk hget (hol_rest cs) hx) (Agree.refl _ _) _ _ _ _ (CS.le.refl _) (Agree.refl _ _) hrl
  refine hnx _ _ _ _ _ hk (hrl'.put d (mkV g cs) _ F hdN (rv_mkV hv hlen h1) (fun i hi => ?_) ((h.djS r).mono hle (CS.le.refl _)) (fun b x hx => h.lt r _ _ (hle _ _ hx)) (fun b x hx => h.own r _ _ (hle _ _ hx)))
  by_cases e : i = r
  · simp only [e, if_true]; exact hfd.symm
  · simp only [e, if_false]; exact (h.dj r i (Ne.symm e)).mono hle (CS.le.refl _)

/-- A place gives up what it owns: all may read it. -/
theorem Rl.freeze (h : Rl B N st a w S fp) {r n : Nat} {p : List (Nat × Nat)} {cs : List V} (hget : (st r).v.getR n p = some cs) :
    ∃ (F : CS) (us : List Value) (b x : Nat), addr w (st r).v (tm a r) p = some (b, x) ∧ (∀ j, j < n → w.cell? ⟨b, x + j, none⟩ = us[j]?) ∧ us.length = n ∧
      ∃ fr : CS, RL w (S.un F) (AlOk w a (st.mod r ((st r).v.setR p (V.frz.go cs)))) (V.frz.go cs) us CS.none ∧ Rl B N (st.mod r ((st r).v.setR p (V.frz.go cs))) a w (S.un F) (fun i => if i = r then fr else fp i) := by
  obtain ⟨b, x, us, F1, put, ha, hf, hput, hlen⟩ := h.getR hget
  have hul := RL.length hf.rl
  have hA : ∀ x u, AlOk w a st x u → AlOk w a (st.mod r ((st r).v.setR p (V.frz.go cs))) x u := fun x u hx => AlOk.mod r _ (fun u i => setR_place _ p _ u i) hx
  have hfz := RL.frz cs us F1 hf.rl
  refine ⟨F1, us, b, x, ha, fun j hj => (hf.cells j (by omega)).2.1, by omega, (fp r).minus F1, RL.frame (CS.le.refl _) hA (Agree.refl _ _) _ _ _ _ (CS.le.refl _) (Agree.refl _ _) hfz, ?_⟩
  refine h.mod r _ (O := CS.none) ((fp r).minus F1) (Pres.refl _ _) (fun _ _ h => h.elim) (CS.le_un_l _ _) (fun b x hs => ?_) (fun i hi => ?_) (fun u i => setR_place _ _ _ _ _)
    (fun hA => ?_) (fun i hi => (h.dj r i (Ne.symm hi)).mono (CS.minus_le _ _) (CS.le.refl _)) ?_ (fun b x hx => h.lt r _ _ hx.1) (fun b x hx => h.own r _ _ hx.1)
  · rcases hs with hs | hs
    · exact ⟨h.ltS b x hs, h.shr b x hs⟩
    · exact ⟨h.lt r _ _ (hf.le _ _ hs), .inr (h.own r _ _ (hf.le _ _ hs))⟩
  · intro b' y h1 h2
    rcases h2 with h2 | h2
    · exact h.djS i _ _ h1 h2
    · exact h.dj i r hi _ _ h1 (hf.le _ _ h2)
  · have hb := hf.back w (S.un F1) _ (V.frz.go cs) us CS.none (CS.le_un_l _ _) hA (Agree.refl _ _) (Agree.refl _ _) (frz_go_length cs) (fun j hj => (hf.cells j hj).2) (fun _ => id) (RL.frame (CS.le.refl _) hA (Agree.refl _ _) _ _ _ _ (CS.le.refl _) (Agree.refl _ _) hfz) (CS.none_dj _)
    rw [hput _ (by rw [frz_go_length]; exact hlen)] at hb
    exact hb.mono (fun b' y hy => hy.elim id (fun h => h.elim))
  · intro b' y h1 h2
    rcases h2 with h2 | h2
    · exact h.djS r _ _ h1.1 h2
    · exact h1.2 h2

mutual
theorem frz_cp : ∀ v : V, v.frz.cp = true
  | .lit _ => rfl
  | .hole => rfl
  | .agg cs => by simpa [V.frz, V.cp] using frz_go_cp cs
  | .tup cs => by simpa [V.frz, V.cp] using frz_go_cp cs
  | .box cs => by simp [V.frz, V.cp]
  | .sl _ _ _ => by simp [V.frz, V.cp]
  | .rp _ => by simp [V.frz, V.cp]
  | .al _ => by simp [V.frz, V.cp]
  | .tl _ _ => rfl
  | .bld _ _ _ => rfl
  | .fn _ cs => by simpa [V.frz, V.cp] using frz_go_cp cs
theorem frz_go_cp : ∀ vs : List V, V.cp.go (V.frz.go vs) = true
  | [] => rfl
  | v :: vs => by simp [V.frz.go, V.cp.go, frz_cp v, frz_go_cp vs]
end

theorem ot_load_fz {o : Oper} {d m T n r : Nat} {g : Bool} {x : Operand} {y : XO} {p : List (Nat × Nat)} {cs : List V} {K : St → Prop} (ho : o.op = .load T x) (hd : o.dst = some d) (hdN : d < N) (hx : cO m x = some y)
    (hg : isAggB P T = some g) (hi : (P.info? T).isSome = true) (hn : P.cellsOf T = n) (h1 : g = false → n = 1) (hr : st.res y = some (r, p)) (hdr : d ≠ r) (hget : (st r).v.getR n p = some cs)
    (hk : K ((st.mod r ((st r).v.setR p (V.frz.go cs))).put d (mkV g (V.frz.go cs)))) : OT P N o st K := by
  intro B a w S fp next Q h hnx
  obtain ⟨b, x, ha, he⟩ := h.res hx hr
  obtain ⟨_, _, _, _, _, _, _, _, hlen⟩ := h.getR hget
  obtain ⟨F, us, b', x', ha', hc, hul, fr, hrl, hrl'⟩ := h.freeze hget
  rw [ha] at ha'
  obtain ⟨rfl, rfl⟩ : b = b' ∧ x = x' := by simpa using ha'
  have hrun := run_loadVar hg hn h1 us hul w hi hc
  unfold Oper.wp
  rw [show (execOp a.eval o).run P w = .ok (.value (if g then .agg us.toArray else us.getD 0 undef)) w by simp only [execOp, ho, he, Sem.run_bind, hrun]; rfl]
  show next (a.put o.dst _) _
  rw [hd]
  exact hnx _ _ _ _ _ hk (hrl'.put_cp d _ _ CS.none hdN (rv_mkV hrl (by rw [frz_go_length]; exact hlen) h1) (cp_mkV (frz_go_cp cs)))

/-- A temporary gives up what it owns, and is copied. -/
theorem ot_move_fz {o : Oper} {d r : Nat} {K : St → Prop} (ho : o.op = .move (.tmp r) ∨ o.op = .assign (.tmp r)) (hd : o.dst = some d) (hdN : d < N) (hrN : r < N)
    (hk : K (((st.put r .hole).put r (st r).v.frz).put d (st r).v.frz)) : OT P N o st K := by
  intro B a w S fp next Q h hnx
  unfold Oper.wp
  rw [show (execOp a.eval o).run P w = .ok (.value (tm a r)) w by rcases ho with h | h <;> simp [execOp, h, Act.eval, tm]]
  show next (a.put o.dst _) _
  rw [hd]
  have hfz := RV.frz _ _ _ (h.rv r)
  have h0 := h.drop r
  have hS : Rl B N (st.put r .hole) a w (S.un (fp r)) (fun i => if i = r then CS.none else fp i) := by
    refine h0.world (Pres.refl CS.none w) (fun _ _ h => h.elim) (CS.le_un_l _ _) (fun b x hs => ?_) (fun i => ?_)
    · rcases hs with hs | hs
      · exact ⟨h.ltS b x hs, h.shr b x hs⟩
      · exact ⟨h.lt r _ _ hs, .inr (h.own r _ _ hs)⟩
    · by_cases e : i = r
      · simp only [e, if_true]; exact CS.none_dj _
      · simp only [e, if_false]
        intro b x h1 h2
        rcases h2 with h2 | h2
        · exact h.djS i _ _ h1 h2
        · exact h.dj i r e _ _ h1 h2
  have hA : ∀ x u, AlOk w a st x u → AlOk w a (st.put r .hole) x u := fun x u h => AlOk.drop r h
  have hv := RV.frame (CS.le.refl _) hA (Agree.refl _ _) _ _ _ _ (CS.le.refl _) (Agree.refl _ _) hfz
  have h2 := hS.put_cp r (st r).v.frz (tm a r) CS.none hrN hv (frz_cp _)
  have htm : a.put (some r) (tm a r) = a := by
    cases a with
    | mk tmps defers =>
      simp only [Act.put, tm, Act.mk.injEq, and_true]
      have hs : r < tmps.size := by have := h.size; simp only at this; omega
      apply Array.ext (by simp)
      intro i h1 h2
      rw [Array.getElem_setIfInBounds (by simpa using h2)]
      split
      · rename_i e; subst e; simp [Array.getD, hs]
      · rfl
  rw [htm] at h2
  refine hnx _ _ _ _ _ hk (h2.put_cp d _ _ CS.none hdN ?_ (frz_cp _))
  have := h2.rv r
  simpa [St.put] using this

theorem addr_append : ∀ (p q : List (Nat × Nat)) (w : World) (v c : V) (u u1 : Value) (b x : Nat), p ≠ [] → q ≠ [] → addr w v u p = some (b, x) → w.cell? ⟨b, x, none⟩ = some u1 → v.getR 1 p = some [c] →
    addr w v u (p ++ q) = addr w c u1 q
  | [], _, _, _, _, _, _, _, _, h, _, _, _, _ => absurd rfl h
  | [(i, k)], q, w, v, c, u, u1, b, x, _, hq, ha, hw, hg => by
    rw [List.singleton_append, addr_cons hq]
    simp only [addr] at ha
    simp only [V.getR] at hg
    cases he : v.elem i with
    | none => simp [he] at hg
    | some es =>
      simp only [he, Option.bind_some] at hg
      split at hg
      · rename_i hk
        have hc : es[k]? = some c := by
          have h1 := Option.some.inj hg
          have h2 := congrArg (·[0]?) h1
          simpa using h2
        simp only [he, hc, Option.bind_some]
        cases hp : v.place u i with
        | none => simp [hp] at ha
        | some r =>
          obtain ⟨b', o⟩ := r
          simp only [hp, Option.map_some, Option.some.injEq, Prod.mk.injEq] at ha
          obtain ⟨rfl, rfl⟩ := ha
          simp [hw]
      · cases hg
  | (i, k) :: y :: p, q, w, v, c, u, u1, b, x, _, hq, ha, hw, hg => by
    rw [addr_cons (by simp)] at ha
    rw [getR_cons (by simp)] at hg
    rw [List.cons_append, addr_cons (by simp)]
    cases he : v.elem i with
    | none => simp [he] at hg
    | some es =>
      simp only [he, Option.bind_some] at hg ha ⊢
      cases hc : es[k]? with
      | none => simp [hc] at hg
      | some c' =>
        simp only [hc, Option.bind_some] at hg ha ⊢
        cases hp : v.place u i with
        | none => simp [hp] at ha
        | some r =>
          obtain ⟨b', o⟩ := r
          simp only [hp, Option.bind_some] at ha ⊢
          cases hw' : w.cell? ⟨b', o + k, none⟩ with
          | none => simp [hw'] at ha
          | some u' =>
            simp only [hw', Option.bind_some] at ha ⊢
            exact addr_append (y :: p) q w c' c u' u1 b x (by simp) hq ha hw hg

theorem cO_tmp {n t : Nat} {x : Operand} (hx : cO n x = some (.t t)) (a : Act) : a.eval x = tm a t := by
  unfold cO at hx; split at hx <;> simp_all [Act.eval, tm]

/-- What a slice of its own holds. -/
theorem Rl.resH (h : Rl B N st a w S fp) {n r : Nat} {x : Operand} {y : XO} {p : List (Nat × Nat)} {c : V} (hx : cO n x = some y) (hr : st.resH y = some (r, p)) (hs : st.slAt r p = some c) :
    ∃ F, F.le (fp r) ∧ RV w S (AlOk w a st) c (a.eval x) F ∧ (∀ q, q ≠ [] → addr w (st r).v (tm a r) (p ++ q) = addr w c (a.eval x) q) := by
  have hloc : Loc w (st r).v (tm a r) false p (a.eval x) := by
    cases y with
    | t t =>
      rw [cO_tmp hx]
      simp only [St.resH] at hr
      split at hr
      · simp only [Option.some.injEq, Prod.mk.injEq] at hr
        obtain ⟨rfl, rfl⟩ := hr
        exact rfl
      · rename_i al hb
        split at hr
        · rename_i hg
          simp only [Option.some.injEq, Prod.mk.injEq] at hr
          obtain ⟨rfl, rfl⟩ := hr
          have hv := h.rv t
          rw [hb] at hv
          obtain ⟨h1, h2, h3⟩ := hv
          simp only [St.good, Bool.and_eq_true, decide_eq_true_eq, Bool.or_eq_true, Bool.not_eq_true'] at hg
          have h4 := h3 hg.2.1 hg.2.2.1 (good_bx hg.2.2.2)
          rw [Al.pth_f hg.1, hg.1] at h4
          exact h4
        · cases hr
      · cases hr
    | c v => simp [St.resH] at hr
    | nil m => simp [St.resH] at hr
  cases p with
  | nil =>
    simp only [St.slAt, Option.some.injEq] at hs
    subst hs
    have he : a.eval x = tm a r := hloc
    rw [he]
    exact ⟨fp r, CS.le.refl _, h.rv r, fun q _ => rfl⟩
  | cons q0 p =>
    obtain ⟨b, x', ha, hcell, cs, hg⟩ := hloc
    simp only [St.slAt] at hs
    rw [hg] at hs
    have hcs : cs = [c] := by
      match cs, hs with
      | [v], hs => simpa using hs
      | [], hs => simp at hs
      | _ :: _ :: _, hs => simp at hs
    subst hcs
    obtain ⟨b', x'', us, F1, put, ha', hf, _, _⟩ := h.getR hg
    rw [ha] at ha'
    obtain ⟨rfl, rfl⟩ : b = b' ∧ x' = x'' := by simpa using ha'
    obtain ⟨u, ur, Fa, Fb, rfl, la, lb, _, hv, hr'⟩ := hf.rl
    have h0 := (hf.cells 0 (by simp)).2.1
    simp at h0
    rw [h0] at hcell
    obtain rfl := Option.some.inj hcell
    exact ⟨Fa, la.trans hf.le, hv, fun q hq => addr_append (q0 :: p) q w _ c _ _ _ _ (by simp) hq ha h0 hg⟩

/-- The element type of a slice type, its size in cells. -/
def slN (P : Program) (T : Nat) : Option Nat :=
  match P.underlying T with
  | some (.slice e) => (P.info? e).map (·.size)
  | _ => none
theorem slN_spec {T n : Nat} (h : slN P T = some n) : ∃ e i, P.underlying T = some (.slice e) ∧ P.info? e = some i ∧ i.size = n := by
  unfold slN at h
  split at h
  · rename_i e hu
    cases hi : P.info? e with
    | none => simp [hi] at h
    | some i => exact ⟨e, i, hu, hi, by simpa [hi] using h⟩
  · cases h

theorem run_indexAt {T n b o len cap : Nat} (h : slN P T = some n) (k : IntKind) (i : Nat) (hi : i < len) (w : World) :
    (Instr.indexAt T (.slice (some ⟨b, o, none⟩) len cap) (.int k i)).run P w = .ok (.pointer (some ⟨b, o + i * n, none⟩)) w := by
  obtain ⟨e, ti, hu, he, hs⟩ := slN_spec h
  have h1 : (0 : Int) ≤ (i : Int) ∧ (i : Int) < (len : Int) := by omega
  simp [Instr.indexAt, asIntOf, run_underlying hu, run_sizeOf' he, hs, addr_add, hi]

theorem sl_some {w : World} {S : CS} {A : AlSem} {own : Bool} {n : Nat} {es : List (List V)} {u : Value} {F : CS} (h : RV w S A (.sl own n es) u F) {i : Nat} (hi : i < es.length) (ho : own = true ∨ own = false) :
    ∃ b o cap, u = .slice (some ⟨b, o, none⟩) es.length cap ∨ own = false ∧ es = [] := by
  obtain ⟨a, cap, rfl, hcap, h⟩ := h
  rcases h with h | ⟨_, rfl, _⟩ | ⟨b, o, uss, rfl, _⟩
  · exact ⟨0, 0, 0, .inr ⟨h.2, h.1⟩⟩
  · simp at hi
  · exact ⟨b, o, cap, .inl rfl⟩

theorem ot_iadr_own {o : Oper} {d m m' T n r i : Nat} {k : IntKind} {x z : Operand} {y z' : XO} {p : List (Nat × Nat)} {es : List (List V)} {K : St → Prop} (ho : o.op = .indexAddr T x z) (hd : o.dst = some d) (hdN : d < N)
    (hx : cO m x = some y) (hz : cO m' z = some z') (hn : slN P T = some n) (hzv : st.val z' = .lit (.int k i)) (hr : st.resH y = some (r, p)) (hs : st.slAt r p = some (.sl true n es)) (hi : i < es.length)
    (hk : K (st.put d (st.ptrAt r (p ++ [(i, 0)])))) : OT P N o st K :=
  OT.value _ hd hdN (by simp [St.ptrAt, V.cp]) (fun B a w S fp h => by
    obtain ⟨F, hF, hv, ha⟩ := h.resH hx hr hs
    obtain ⟨b, c, cap, he | he⟩ := sl_some hv hi (.inl rfl)
    · have ha' := ha [(i, 0)] (by simp)
      rw [he] at ha'
      simp only [addr, V.place, hdrOf, Option.map_some, Nat.add_zero] at ha'
      refine ⟨_, CS.none, ?_, h.ptrAt ha' _⟩
      simp only [execOp, ho, he, h.lit hz hzv, Sem.run_bind, run_indexAt hn k i hi]; rfl
    · cases he.1) hk

theorem rll_get {w : World} {S : CS} {A : AlSem} : ∀ {es : List (List V)} {uss : List (List Value)} {F : CS} {i : Nat} {e : List V}, RLL w S A es uss F → es[i]? = some e → ∃ us, uss[i]? = some us ∧ RL w S A e us F
  | [], _, _, _, _, _, h => by simp at h
  | x :: xs, _, F, 0, e, h, he => by
    obtain ⟨us, ur, F1, F2, rfl, l1, l2, d, hv, hr⟩ := h
    simp at he; subst he
    exact ⟨us, rfl, hv.mono l1⟩
  | x :: xs, _, F, i + 1, e, h, he => by
    obtain ⟨us, ur, F1, F2, rfl, l1, l2, d, hv, hr⟩ := h
    obtain ⟨us', h1, h2⟩ := rll_get hr (by simpa using he)
    exact ⟨us', by simpa using h1, h2.mono l2⟩

theorem ot_iadr_shr {o : Oper} {d m m' T n i : Nat} {k : IntKind} {x z : Operand} {y z' : XO} {es : List (List V)} {e : List V} {K : St → Prop} (ho : o.op = .indexAddr T x z) (hd : o.dst = some d) (hdN : d < N)
    (hx : cO m x = some y) (hz : cO m' z = some z') (hn : slN P T = some n) (hzv : st.val z' = .lit (.int k i)) (hs : st.val y = .sl false n es) (hi : es[i]? = some e)
    (hk : K (st.put d (.rp e))) : OT P N o st K :=
  OT.value _ hd hdN (by simp [V.cp]) (fun B a w S fp h => by
    have hv := h.val hx
    rw [hs] at hv
    have hlt : i < es.length := (List.getElem?_eq_some_iff.1 hi).1
    obtain ⟨ad, cap, he, hcap, hv⟩ := hv
    rcases hv with ⟨rfl, _⟩ | ⟨_, rfl, _⟩ | ⟨b, c, uss, rfl, hl, hc, hO, hN, hr⟩
    · simp at hlt
    · simp at hlt
    · obtain ⟨us, h1, h2⟩ := rll_get hr hi
      have hel := hl e (List.mem_of_getElem? hi)
      refine ⟨_, CS.none, ?_, b, c + i * n, us, rfl, fun k' hk' => ?_, h2⟩
      · simp only [execOp, ho, he, h.lit hz hzv, Sem.run_bind, run_indexAt hn k i hlt]; rfl
      · have h3 := hc i k' hlt (by omega)
        rw [h1] at h3
        rw [Nat.add_assoc]
        refine ⟨hN rfl _ ?_, h3⟩
        have := Nat.mul_le_mul_right n (show i + 1 ≤ es.length from hlt)
        rw [Nat.add_mul] at this; omega) hk

/-- Lengths. -/
theorem ot_len_sl {o : Oper} {d m T e : Nat} {c : Call} {x : Operand} {y : XO} {own : Bool} {n : Nat} {es : List (List V)} {K : St → Prop} (ho : o.op = .call c) (hc : c.callee = .builtin .len) (hca : c.args = #[x]) (hct : c.argTypes = #[T])
    (hd : o.dst = some d) (hdN : d < N) (hT : P.underlying T = some (.slice e)) (hx : cO m x = some y) (hs : st.val y = .sl own n es) (hk : K (st.put d (.lit (.int .i64 es.length)))) : OT P N o st K :=
  ot_lit hd hdN (fun B a w S fp h => by
    have hv := h.val hx
    rw [hs] at hv
    obtain ⟨ad, cap, he, _⟩ := hv
    simp [execOp, ho, resolve, hc, hca, hct, invoke, builtin, Builtin.len_, run_underlying hT, he, goInt]) hk

theorem ot_len_own {o : Oper} {d m T e r : Nat} {c : Call} {x : Operand} {y : XO} {p : List (Nat × Nat)} {own : Bool} {n : Nat} {es : List (List V)} {K : St → Prop} (ho : o.op = .call c) (hc : c.callee = .builtin .len) (hca : c.args = #[x]) (hct : c.argTypes = #[T])
    (hd : o.dst = some d) (hdN : d < N) (hT : P.underlying T = some (.slice e)) (hx : cO m x = some y) (hr : st.resH y = some (r, p)) (hs : st.slAt r p = some (.sl own n es)) (hk : K (st.put d (.lit (.int .i64 es.length)))) : OT P N o st K :=
  ot_lit hd hdN (fun B a w S fp h => by
    obtain ⟨F, hF, hv, _⟩ := h.resH hx hr hs
    obtain ⟨ad, cap, he, _⟩ := hv
    simp [execOp, ho, resolve, hc, hca, hct, invoke, builtin, Builtin.len_, run_underlying hT, he, goInt]) hk

theorem ot_len_str {o : Oper} {d m T : Nat} {c : Call} {x : Operand} {y : XO} {s : ByteArray} {K : St → Prop} (ho : o.op = .call c) (hc : c.callee = .builtin .len) (hca : c.args = #[x]) (hct : c.argTypes = #[T])
    (hd : o.dst = some d) (hdN : d < N) (hT : P.underlying T = some .string) (hx : cO m x = some y) (hs : st.val y = .lit (.string s)) (hk : K (st.put d (.lit (.int .i64 s.size)))) : OT P N o st K :=
  ot_lit hd hdN (fun B a w S fp h => by
    simp [execOp, ho, resolve, hc, hca, hct, invoke, builtin, Builtin.len_, run_underlying hT, h.lit hx hs, goInt]) hk

/-- An address is held against nil. -/
theorem ot_nilck {o : Oper} {d m r : Nat} {x : Operand} {y : XO} {p : List (Nat × Nat)} {K : St → Prop} (ho : o.op = .nilCheck x) (hd : o.dst = some d) (hdN : d < N) (hx : cO m x = some y) (hr : st.res y = some (r, p))
    (hk : K (st.put d (st.ptrAt r p))) : OT P N o st K :=
  OT.value _ hd hdN (by simp [St.ptrAt, V.cp]) (fun B a w S fp h => by
    obtain ⟨b, c, ha, he⟩ := h.res hx hr
    exact ⟨_, CS.none, by simp [execOp, ho, he], h.ptrAt ha _⟩) hk
theorem ot_nilck_rp {o : Oper} {d m : Nat} {x : Operand} {y : XO} {cs : List V} {K : St → Prop} (ho : o.op = .nilCheck x) (hd : o.dst = some d) (hdN : d < N) (hx : cO m x = some y) (hr : st.val y = .rp cs)
    (hk : K (st.put d (.rp cs))) : OT P N o st K :=
  OT.value _ hd hdN (by simp [V.cp]) (fun B a w S fp h => by
    have hv := h.val hx
    rw [hr] at hv
    have hv' := hv
    obtain ⟨b, c, us, he, _⟩ := hv
    exact ⟨a.eval x, CS.none, by simp [execOp, ho, he], hv'⟩) hk

theorem rl_get {w : World} {S : CS} {A : AlSem} : ∀ {cs : List V} {us : List Value} {F : CS} {i : Nat} {c : V}, RL w S A cs us F → cs[i]? = some c → ∃ u, us[i]? = some u ∧ RV w S A c u F
  | [], _, _, _, _, _, h => by simp at h
  | x :: xs, _, F, 0, e, h, he => by
    obtain ⟨us, ur, F1, F2, rfl, l1, l2, d, hv, hr⟩ := h
    simp at he; subst he
    exact ⟨us, rfl, hv.mono l1⟩
  | x :: xs, _, F, i + 1, e, h, he => by
    obtain ⟨us, ur, F1, F2, rfl, l1, l2, d, hv, hr⟩ := h
    obtain ⟨us', h1, h2⟩ := rl_get hr (by simpa using he)
    exact ⟨us', by simpa using h1, h2.mono l2⟩

/-- A part of several results. -/
theorem ot_ext {o : Oper} {d m i : Nat} {x : Operand} {y : XO} {cs : List V} {c : V} {K : St → Prop} (ho : o.op = .extract x i) (hd : o.dst = some d) (hdN : d < N) (hx : cO m x = some y) (hs : st.val y = .tup cs) (hi : cs[i]? = some c) (hc : c.cp = true)
    (hk : K (st.put d c)) : OT P N o st K :=
  OT.value _ hd hdN hc (fun B a w S fp h => by
    have hv := h.val hx
    rw [hs] at hv
    obtain ⟨us, he, hr⟩ := hv
    obtain ⟨u, hu, hv⟩ := rl_get hr hi
    refine ⟨u, _, ?_, hv⟩
    simp [execOp, ho, he, Instr.extract, hu]) hk

theorem ot_ext_tk {o : Oper} {d r i : Nat} {cs : List V} {c : V} {K : St → Prop} (ho : o.op = .extract (.tmp r) i) (hd : o.dst = some d) (hdN : d < N) (hrN : r < N) (hdr : d ≠ r) (hs : (st r).v = .tup cs) (hi : cs[i]? = some c)
    (hk : K (((st.put r .hole).put r (.tup (cs.set i .hole))).put d c)) : OT P N o st K := by
  intro B a w S fp next Q h hnx
  have hv := h.rv r
  rw [hs] at hv
  obtain ⟨us, he, hr⟩ := hv
  have hlt : i < cs.length := (List.getElem?_eq_some_iff.1 hi).1
  have hul := RL.length hr
  rw [list_one cs i c hi] at hr
  obtain ⟨ua, ub, Fa, Fb, rfl, la, lb, dab, hra, hrb⟩ := RL.split hr
  obtain ⟨u, ur, F1, F2, rfl, l1, l2, d12, hcv, hrr⟩ := hrb
  have hua : ua.length = i := by rw [RL.length hra, List.length_take]; omega
  unfold Oper.wp
  have hev : a.eval (.tmp r) = .tuple (ua ++ u :: ur).toArray := he
  rw [show (execOp a.eval o).run P w = .ok (.value u) w by simp [execOp, ho, hev, Instr.extract, List.getElem?_append_right, hua]]
  show next (a.put o.dst _) _
  rw [hd]
  have hA : ∀ x u, AlOk w a st x u → AlOk w a (st.put r .hole) x u := fun x u h => AlOk.drop r h
  have hra' := RL.frame (CS.le.refl _) hA (Agree.refl _ _) _ _ _ _ (CS.le.refl _) (Agree.refl _ _) hra
  have hrr' := RL.frame (CS.le.refl _) hA (Agree.refl _ _) _ _ _ _ (CS.le.refl _) (Agree.refl _ _) hrr
  have hcv' := RV.frame (CS.le.refl _) hA (Agree.refl _ _) _ _ _ _ (CS.le.refl _) (Agree.refl _ _) hcv
  have hset : cs.set i .hole = cs.take i ++ (V.hole :: cs.drop (i + 1)) := by rw [List.set_eq_take_append_cons_drop, if_pos hlt]
  have hnew : RL w S (AlOk w a (st.put r .hole)) (cs.set i .hole) (ua ++ u :: ur) (Fa.un F2) := by
    rw [hset]
    exact RL.append (CS.le_un_l _ _) (CS.le_un_r _ _) (dab.mono (CS.le.refl _) l2) hra' ⟨u, ur, CS.none, F2, rfl, CS.none_le _, CS.le.refl _, CS.none_dj _, trivial, hrr'⟩
  have hle : (Fa.un F2).le (fp r) := CS.un_le la (l2.trans lb)
  have h1 := (h.drop r).put r (.tup (cs.set i .hole)) (tm a r) (Fa.un F2) hrN ⟨_, he, hnew⟩ (fun j hj => by simp only [hj, if_false]; exact (h.dj r j (Ne.symm hj)).mono hle (CS.le.refl _)) ((h.djS r).mono hle (CS.le.refl _)) (fun b x hx => h.lt r _ _ (hle _ _ hx)) (fun b x hx => h.own r _ _ (hle _ _ hx))
  have htm : a.put (some r) (tm a r) = a := by
    cases a with
    | mk tmps defers =>
      simp only [Act.put, tm, Act.mk.injEq, and_true]
      have hs : r < tmps.size := by have := h.size; simp only at this; omega
      apply Array.ext (by simp)
      intro i h1 h2
      rw [Array.getElem_setIfInBounds (by simpa using h2)]
      split
      · rename_i e; subst e; simp [Array.getD, hs]
      · rfl
  rw [htm] at h1
  have hA2 : ∀ x u, AlOk w a (st.put r .hole) x u → AlOk w a ((st.put r .hole).put r (.tup (cs.set i .hole))) x u := by
    intro x u ⟨g1, g2, g3⟩
    by_cases e : x.root = r
    · refine ⟨?_, ?_, ?_⟩ <;> simp only [St.put, e, if_true] at *
      · omega
      · omega
      · intro e1; omega
    · refine ⟨?_, ?_, ?_⟩ <;> simp only [St.put, e, if_false] at *
      · exact g1
      · exact g2
      · exact g3
  have hF1 : F1.le (fp r) := l1.trans lb
  refine hnx _ _ _ _ _ hk (h1.put d c u F1 hdN (RV.frame (CS.le.refl _) hA2 (Agree.refl _ _) _ _ _ _ (CS.le.refl _) (Agree.refl _ _) hcv') (fun j hj => ?_) ((h.djS r).mono hF1 (CS.le.refl _)) (fun b x hx => h.lt r _ _ (hF1 _ _ hx)) (fun b x hx => h.own r _ _ (hF1 _ _ hx)))
  by_cases e : j = r
  · simp only [e, if_true]
    intro b x h1 h2
    rcases h2 with h2 | h2
    · exact dab _ _ h2 (l1 _ _ h1)
    · exact d12 _ _ h1 h2
  · simp only [e, if_false]
    exact (h.dj r j (Ne.symm e)).mono hF1 (CS.le.refl _)
end
end Go.Proofs.YtainknkfjekngaaDoor.Vm
