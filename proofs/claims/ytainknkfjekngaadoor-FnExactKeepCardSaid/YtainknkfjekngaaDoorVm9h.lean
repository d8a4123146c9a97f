/- The rest of an own list, and how it is cleared. -/
import Derived.Test.YtainknkfjekngaaDoorVm9g
namespace Go.Proofs.YtainknkfjekngaaDoor.Vm
open Go
set_option linter.unusedVariables false
set_option linter.unusedSimpArgs false

section
variable {P : Program} {B : Base P} {N : Nat} {st : St} {a : Act} {w : World} {S : CS} {fp : Nat → CS}

/-- The rest of an own list: a slice that begins at one of its elements. -/
theorem ot_tl {o : Oper} {d m n T r l by_ : Nat} {x : Operand} {x' : XO} {lo : Option Operand} {lo' : Option XO} {es : List (List V)} {K : St → Prop} (ho : o.op = .slice T x lo none none) (hd : o.dst = some d) (hdN : d < N) (hT : slE P T = some (n, by_))
    (hx : cO m x = some x') (hlo : CoB lo lo') (hr : st.resH x' = some (r, [])) (hs : (st r).v = .sl true n es) (h3 : bnd es.length 0 (lo'.map st.val) = some l) (hl : l < es.length)
    (hk : K (st.put d (.tl ⟨true, r, [(l, 0)], (st r).ver, (st r).hv⟩ (es.length - l)))) : OT P N o st K := by
  intro B a w S fp next Q h hnx
  obtain ⟨e, i, z, hu, hi0, hz, hsz, hzs, hn0, hby⟩ := slE_spec hT
  obtain ⟨F, hF, hv, ha⟩ := h.resH hx hr (c := .sl true n es) (by simp only [St.slAt, hs])
  obtain ⟨ad, cap, hux, hcap, hcase⟩ := id hv
  obtain ⟨hb, hl1, hh1⟩ := bnds_run (P := P) (lo := lo) (hi := none) (lo' := lo') (hi' := none) h hcap.1 hlo trivial rfl h3
  rcases hcase with hc0 | ⟨_, rfl, _⟩ | ⟨b, oo, uss, rfl, _⟩
  · cases hc0.2
  · simp at hl
  unfold Oper.wp
  rw [execOp_slice ho hu hi0 hux hb]
  show next (a.put o.dst _) _
  rw [hd]
  have ha' := ha [(l, 0)] (by simp)
  rw [hux] at ha'
  simp only [addr, V.place, hdrOf, Option.map_some, Nat.add_zero, List.nil_append] at ha'
  have hne : ¬ cap = l := by omega
  have hsl : sliced (some ⟨b, oo, none⟩) l es.length cap i.size = .slice (some ⟨b, oo + l * n, none⟩) (es.length - l) (cap - l) := by
    unfold sliced
    rw [if_neg hne, hsz, Option.map_some, addr_add]
  rw [hsl]
  refine hnx _ _ _ _ _ hk (h.put_cp d _ _ CS.none hdN ⟨b, oo + l * n, cap - l, rfl, Nat.le_refl _, Nat.le_refl _, fun _ _ _ => ⟨b, oo + l * n, ?_, rfl⟩⟩ rfl)
  exact ha'

theorem rll_rep {A : AlSem} {zs : List V} {zc : List Value} (h : RL w S A zs zc CS.none) : ∀ m : Nat, RLL w S A (List.replicate m zs) (List.replicate m zc) CS.none
  | 0 => rfl
  | m + 1 => ⟨zc, List.replicate m zc, CS.none, CS.none, rfl, CS.none_le _, CS.none_le _, CS.none_dj _, h, rll_rep h m⟩

theorem zeroCells_get (z : Array Value) (m i k : Nat) (hi : i < m) (hk : k < z.size) : (Builtin.zeroCells z m).toList[i * z.size + k]? = z.toList[k]? := by
  have hlt : i * z.size + k < m * z.size := by
    have := Nat.mul_le_mul_right z.size (show i + 1 ≤ m from hi)
    rw [Nat.add_mul] at this; omega
  unfold Builtin.zeroCells
  rw [Array.toList_map, List.getElem?_map, Array.toList_range, List.getElem?_range hlt]
  simp only [Option.map_some]
  have hmod : (i * z.size + k) % z.size = k := by rw [Nat.add_comm, Nat.add_mul_mod_self_right, Nat.mod_eq_of_lt hk]
  rw [hmod, getElem!_pos z k hk, Array.getElem?_toList, Array.getElem?_eq_getElem hk]

theorem ot_clr {o : Oper} {c : Call} {T e r l m n : Nat} {x : Operand} {y : XO} {zs : List V} {es : List (List V)} {z : Al} {K : St → Prop} (ho : o.op = .call c) (hc : c.callee = .builtin .clear) (hca : c.args = #[x]) (hct : c.argTypes = #[T]) (hd : o.dst = none)
    (hx : cO 0 x = some y) (hT : P.underlying T = some (.slice e)) (hzs : zsOf P e = some zs) (hzn : zs.length = n) (hv : st.val y = .tl z m) (hg : st.good z = true) (hzp : z.ptr = true) (hzpa : z.path = [(l, 0)]) (hzr : z.root = r)
    (hs : (st r).v = .sl true n es) (hlm : l + m = es.length) (hm : 0 < m) (hk : K (st.mod r (.sl true n (es.take l ++ List.replicate m zs)))) : OT P N o st K := by
  intro B a w S fp next Q h hnx
  obtain ⟨ti, zv, hti, hz0, hzl, hsz, hone, hrl⟩ := zsOf_spec hzs
  have hvx := h.val hx
  rw [hv] at hvx
  obtain ⟨b, oo, cap, hux, hal⟩ := hvx
  simp only [St.good, Bool.and_eq_true, Bool.or_eq_true, decide_eq_true_eq, Bool.not_eq_true'] at hg
  have hloc := hal.2.2 hg.1 hg.2.1 (good_bx hg.2.2)
  rw [Al.pth_n (by rw [hzpa]; simp), hzp, hzpa, hzr, hs] at hloc
  obtain ⟨b1, x1, ha, hp1⟩ := hloc
  simp only [Value.pointer.injEq, Option.some.injEq, Addr.mk.injEq, and_true] at hp1
  obtain ⟨rfl, rfl⟩ := hp1
  have hrv := h.rv r
  rw [hs] at hrv
  obtain ⟨ad, cap2, hur, hcap, hcase⟩ := id hrv
  rcases hcase with hc0 | ⟨_, rfl, _⟩ | ⟨b2, o2, uss, rfl, hen, hcell, hO, _, hrr⟩
  · cases hc0.2
  · simp at hlm; omega
  rw [hur] at ha
  simp only [addr, V.place, hdrOf, Option.map_some, Nat.add_zero, Option.some.injEq, Prod.mk.injEq] at ha
  obtain ⟨rfl, rfl⟩ := ha
  have hzcs : zv.cells.size = n := by rw [hzl, hzn]
  obtain ⟨vs, hvs⟩ : ∃ vs, vs = (Builtin.zeroCells zv.cells m).toList := ⟨_, rfl⟩
  have hvl : vs.length = m * n := by rw [hvs, Array.length_toList, size_zeroCells, hzcs]
  have hmn : l * n + m * n ≤ cap2 * n := by rw [← Nat.add_mul]; exact Nat.mul_le_mul_right n (by omega)
  have hown : ∀ j, j < vs.length → fp r b2 (o2 + l * n + j) ∧ (w.cell? ⟨b2, o2 + l * n + j, none⟩).isSome = true ∧ PlB w b2 := fun j hj => by
    have := hO rfl (l * n + j) (by omega)
    rw [← Nat.add_assoc] at this; exact this
  have hcs1 : ∀ j, j < vs.length → (w.cell? ⟨b2, o2 + l * n + j, none⟩).isSome = true := fun j hj => (hown j hj).2.1
  have hone' : ∀ v ∈ vs, v.oneCell' = true := by
    intro v hv'
    rw [hvs] at hv'
    unfold Builtin.zeroCells at hv'
    rw [Array.toList_map, List.mem_map] at hv'
    obtain ⟨k, hk1, rfl⟩ := hv'
    rw [Array.toList_range, List.mem_range] at hk1
    have hpos : 0 < zv.cells.size := by
      cases hq : zv.cells.size with
      | zero => rw [hq, Nat.mul_zero] at hk1; omega
      | succ _ => omega
    have hlt : k % zv.cells.size < zv.cells.size := Nat.mod_lt _ hpos
    rw [getElem!_pos zv.cells _ hlt]
    exact hone _ (Array.getElem_mem_toList hlt)
  have hst := run_storeCells_cells (P := P) b2 (o2 + l * n) vs 0 w (by simpa using hcs1) (fun j hj => (hown j hj).2.2.frz _) hone'
  have hrun : (execOp a.eval o).run P w = .ok (.value (.tuple #[])) (w.setCells b2 (o2 + l * n) vs) := by
    obtain ⟨m', rfl⟩ : ∃ m', m = m' + 1 := ⟨m - 1, by omega⟩
    simp only [execOp, ho, Sem.run_bind]
    simp [resolve, hc, hca, hct, invoke, builtin, Builtin.clear_, run_underlying hT, hux, run_zeroValue' hti hz0, ← hvs]
    simp at hst
    simp [hst]
  unfold Oper.wp
  rw [hrun]
  show next (a.put o.dst _) _
  rw [hd]
  have hp : Pres (CS.row b2 (o2 + l * n) vs.length) w (w.setCells b2 (o2 + l * n) vs) := pres_setCells b2 vs (o2 + l * n) w
  have hrow : ∀ y', o2 + l * n ≤ y' → y' < o2 + l * n + vs.length → fp r b2 y' := fun y' h1 h2 => by
    have := (hown (y' - (o2 + l * n)) (by omega)).1
    rwa [show o2 + l * n + (y' - (o2 + l * n)) = y' by omega] at this
  have hmod := h.mod r (.sl true n (es.take l ++ List.replicate m zs)) (S' := S) (fp r) hp ?_ (CS.le.refl _) (fun b x hs => ⟨Nat.lt_of_lt_of_le (h.ltS b x hs) hp.size, h.shr b x hs⟩) (fun i _ => h.djS i) (fun u i => by rw [hs]; rfl) ?_ ?_ ?_ ?_ ?_
  · exact hnx _ _ _ _ _ hk hmod
  · rintro b' y' ⟨rfl, h1, h2⟩
    have hy := hrow y' h1 h2
    exact ⟨h.own r _ _ hy, fun i hi hh => h.dj r i (Ne.symm hi) _ _ hy hh, fun hh => h.djS r _ _ hy hh⟩
  · intro hA
    have hagS : Agree w (w.setCells b2 (o2 + l * n) vs) S := hp.agree h.ltS (fun b' y' hs' hr => by obtain ⟨rfl, h1, h2⟩ := hr; exact h.djS r _ _ (hrow y' h1 h2) hs')
    have hlen : (es.take l ++ List.replicate m zs).length = es.length := by simp; omega
    have hsp : es = es.take l ++ es.drop l := (List.take_append_drop l es).symm
    have hrr2 := hrr
    simp only [if_true] at hrr2
    rw [hsp] at hrr2
    obtain ⟨ua, ub, Fa, Fb, rfl, la, lb, dab, hra, hrb⟩ := RLL.split hrr2
    have hual : ua.length = l := by rw [RLL.length hra]; simp; omega
    rw [hur]
    refine ⟨some ⟨b2, o2, none⟩, cap2, by rw [hlen], by rw [hlen]; exact hcap, .inr (.inr ⟨b2, o2, ua ++ List.replicate m zv.cells.toList, rfl, ?_, ?_, ?_, (by intro h; cases h), ?_⟩)⟩
    · intro e' he'
      rcases List.mem_append.1 he' with h1 | h1
      · exact hen e' (List.mem_of_mem_take h1)
      · rw [(List.mem_replicate.1 h1).2, hzn]
    · intro i k hi hk'
      rw [hlen] at hi
      by_cases hil : i < l
      · have h4 : i * n + k < l * n := by
          have := Nat.mul_le_mul_right n (show i + 1 ≤ l from hil)
          rw [Nat.add_mul] at this; omega
        rw [World.cell?_setCells_out b2 vs (o2 + l * n) w ⟨b2, o2 + (i * n + k), none⟩ (fun _ _ => .inl (by show o2 + (i * n + k) < o2 + l * n; omega)), hcell i k hi hk', List.getElem?_append_left (by omega), List.getElem?_append_left (by omega)]
      · have h5 : i * n + k = l * n + ((i - l) * n + k) := by
          have : i * n = l * n + (i - l) * n := by rw [← Nat.add_mul]; congr 1; omega
          omega
        have h6 : (i - l) * n + k < vs.length := by
          have := Nat.mul_le_mul_right n (show i - l + 1 ≤ m by omega)
          rw [Nat.add_mul] at this; omega
        rw [h5, show o2 + (l * n + ((i - l) * n + k)) = o2 + l * n + ((i - l) * n + k) by omega, World.cell?_setCells_in b2 vs (o2 + l * n) w hcs1 _ h6, List.getElem?_append_right (by omega), hual, List.getElem?_replicate, if_pos (by omega)]
        have h7 := zeroCells_get zv.cells m (i - l) k (by omega) (by omega)
        rw [hzcs, ← hvs, List.getElem?_eq_getElem h6] at h7
        exact h7
    · intro _ x' hx'
      obtain ⟨g1, g2, g3⟩ := hO rfl x' hx'
      refine ⟨g1, ?_, plb_setCells g3⟩
      by_cases hin : l * n ≤ x' ∧ x' < l * n + vs.length
      · have := World.cell?_setCells_in b2 vs (o2 + l * n) w hcs1 (x' - l * n) (by omega)
        rw [show o2 + l * n + (x' - l * n) = o2 + x' by omega] at this
        rw [this]; rfl
      · rw [World.cell?_setCells_out b2 vs (o2 + l * n) w ⟨b2, o2 + x', none⟩ (fun _ _ => by show o2 + x' < o2 + l * n ∨ o2 + l * n + vs.length ≤ o2 + x'; omega)]
        exact g2
    · simp only [if_true]
      have hagF : Agree w (w.setCells b2 (o2 + l * n) vs) Fa := hp.agree (fun b' y' hy => h.lt r _ _ (la _ _ hy).1) (fun b' y' hy hr => by
        obtain ⟨rfl, h1, h2⟩ := hr
        exact (la _ _ hy).2 ⟨rfl, by omega, by omega⟩)
      have hra' := RLL.frame (CS.le.refl _) hA hagS _ _ _ _ (CS.le.refl _) hagF hra
      exact RLL.append la (CS.none_le _) (CS.none_dj _).symm hra' (rll_rep (hrl _ _ _) m)
  · exact fun i hi => h.dj r i (Ne.symm hi)
  · exact h.djS r
  · exact fun b' y' h1 => Nat.lt_of_lt_of_le (h.lt r _ _ h1) hp.size
  · exact fun b' y' h1 => h.own r _ _ h1
end
end Go.Proofs.YtainknkfjekngaaDoor.Vm
