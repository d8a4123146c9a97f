/- More operations: nil slices given and stored; fields of struct values; least and greatest. -/
import Derived.Test.YtainknkfjekngaaDoorVm9d
namespace Go.Proofs.YtainknkfjekngaaDoor.Vm
open Go
set_option linter.unusedVariables false
set_option linter.unusedSimpArgs false

section
variable {P : Program} {N : Nat} {st : St}

theorem ot_move_nil {o : Oper} {d n k : Nat} {x : Operand} {K : St → Prop} (ho : o.op = .move x ∨ o.op = .assign x) (hd : o.dst = some d) (hdN : d < N) (hx : cO n x = some (.nil k))
    (hk : K (st.put d (.sl true k []))) : OT P N o st K := by
  intro B a w S fp next Q hr hn
  unfold Oper.wp
  have hv : (execOp a.eval o).run P w = .ok (.value (a.eval x)) w := by rcases ho with h | h <;> simp [execOp, h]
  rw [hv]
  show next (a.put o.dst _) w
  rw [hd]
  exact hn _ _ _ _ _ hk (hr.put d _ _ CS.none hdN (hr.val hx) (fun _ _ => CS.none_dj _) (CS.none_dj _) (fun _ _ h => h.elim) (fun _ _ h => h.elim))

theorem ot_store_nil {o : Oper} {T m m' n r k : Nat} {x v : Operand} {y : XO} {p : List (Nat × Nat)} {cs : List V} {K : St → Prop} (ho : o.op = .store T x v) (hd : o.dst = none) (hx : cO m x = some y) (hv : cO m' v = some (.nil k))
    (hi : (P.info? T).isSome = true) (hn : P.cellsOf T = n) (hr : st.res y = some (r, p)) (hget : (st r).v.getR n p = some cs) (hl : n = 1)
    (hk : K (st.mod r ((st r).v.setR p [.sl true k []]))) : OT P N o st K := by
  intro B a w S fp next Q h hnx
  obtain ⟨b, x, ha, he⟩ := h.res hx hr
  obtain ⟨hrl, h1⟩ := V.cells_spec (h.val hv) (show (st.val (.nil k)).cells = some [.sl true k []] from rfl)
  have hul := RL.length hrl
  simp only [List.length_cons, List.length_nil] at hul
  obtain ⟨hw, hc⟩ := h.write hget ha (by simpa using hl.symm) hrl (fun _ => CS.none_dj _) (CS.none_dj _) (fun _ _ h => h.elim) (fun _ _ h => h.elim)
  unfold Oper.wp
  have hrun : (execOp a.eval o).run P w = .ok .skip (w.setCells b x (a.eval v).cells.toList) := by
    have := run_storeAt (P := P) (T := T) b x (a.eval v) w hi (by omega) h1 (fun j hj => hc j (by omega))
    simp only [execOp, ho, he, Sem.run_bind, this]; rfl
  rw [hrun]
  show next (a.put o.dst undef) _
  rw [hd]
  exact hnx _ _ _ _ _ hk hw

/-- A field of a struct value: where it lies, how many cells, and whether it is a struct. -/
def fLoc (P : Program) (T f : Nat) : Option (Nat × Nat × Bool) :=
  match P.underlying T with
  | some (.struct fs) => match fs[f]? with
    | some x => match isAggB P x.type with
      | some g => if (P.info? x.type).isSome = true ∧ (g = false → P.cellsOf x.type = 1) then some (x.offset, P.cellsOf x.type, g) else none
      | none => none
    | none => none
  | _ => none

theorem run_fld {o : Oper} {T f off n : Nat} {g : Bool} {x : Operand} {cs : List V} {a : Act} {w : World} {S F : CS} {A : AlSem} (ho : o.op = .field T x f)
    (hf : fLoc P T f = some (off, n, g)) (hlen : off + n ≤ cs.length) (hv : RV w S A (.agg cs) (a.eval x) F) : ∃ u Fm, (execOp a.eval o).run P w = .ok (.value u) w ∧ Fm.le F ∧ RV w S A (mkV g ((cs.drop off).take n)) u Fm := by
  obtain ⟨us, hu, hl⟩ := hv
  unfold fLoc at hf
  split at hf <;> try (cases hf; done)
  rename_i fs hT
  split at hf <;> try (cases hf; done)
  rename_i fd hfd
  split at hf <;> try (cases hf; done)
  rename_i g' hg
  split at hf <;> try (cases hf; done)
  rename_i hc
  simp only [Option.some.injEq, Prod.mk.injEq] at hf
  obtain ⟨rfl, rfl, rfl⟩ := hf
  rw [list_three cs fd.offset (P.cellsOf fd.type) hlen] at hl
  obtain ⟨ua, ub, Fa, Fb, rfl, la, lb, dab, hla, hlb⟩ := RL.split hl
  obtain ⟨um, uz, Fm, Fz, rfl, lm, lz, dmz, hlm, hlz⟩ := RL.split hlb
  have e1 : ua.length = fd.offset := by rw [RL.length hla, List.length_take]; omega
  have e2 : um.length = P.cellsOf fd.type := by rw [RL.length hlm, List.length_take, List.length_drop]; omega
  obtain ⟨i, hi⟩ := Option.isSome_iff_exists.1 hc.1
  have hs : i.size = P.cellsOf fd.type := by simp [Program.cellsOf, hi]
  refine ⟨_, Fm, ?_, lm.trans lb, rv_mkV hlm (by rw [List.length_take, List.length_drop]; omega) hc.2⟩
  have hpart : (part fd.type (ua ++ (um ++ uz)).toArray fd.offset).run P w = .ok (if g' then .agg um.toArray else um.getD 0 undef) w := by
    unfold part
    rw [Sem.run_bind, run_isAgg' hg]
    cases g' with
    | true =>
      simp only [Result.andThen, if_true, Sem.run_bind, run_sizeOf' hi, Sem.run_pure]
      congr 2
      rw [hs, ← e1, ← e2]
      apply Array.ext'
      simp [List.extract_eq_take_drop]
    | false =>
      have h1 := hc.2 rfl
      match um, e2 with
      | [u], _ =>
        simp only [Result.andThen, Bool.false_eq_true, if_false]
        have : (ua ++ ([u] ++ uz)).toArray[fd.offset]? = some u := by simp [← e1]
        rw [this]; rfl
      | [], e2 => simp at e2; omega
      | _ :: _ :: _, e2 => simp at e2; omega
  have hfield : (Instr.field T (.agg (ua ++ (um ++ uz)).toArray) f).run P w = .ok (if g' then .agg um.toArray else um.getD 0 undef) w := by
    unfold Instr.field
    rw [Sem.run_bind, run_underlying hT]
    simp only [Result.andThen, hfd]
    rw [Sem.run_bind]
    exact hpart
  simp only [execOp, ho, hu, Sem.run_bind, hfield]; rfl
theorem ot_fld {o : Oper} {d m T f off n : Nat} {g : Bool} {x : Operand} {y : XO} {cs : List V} {K : St → Prop} (ho : o.op = .field T x f) (hd : o.dst = some d) (hdN : d < N) (hx : cO m x = some y)
    (hf : fLoc P T f = some (off, n, g)) (hv : st.val y = .agg cs) (hlen : off + n ≤ cs.length) (hcp : V.cp.go ((cs.drop off).take n) = true) (hk : K (st.put d (mkV g ((cs.drop off).take n)))) : OT P N o st K :=
  OT.value _ hd hdN (cp_mkV hcp) (fun B a w S fp h => by
    have hr := h.val hx
    rw [hv] at hr
    obtain ⟨u, Fm, h1, _, h2⟩ := run_fld ho hf hlen hr
    exact ⟨u, Fm, h1, h2⟩) hk
/-- A field of a struct value that is used up. -/
theorem ot_fldT {o : Oper} {d r T f off n : Nat} {g : Bool} {cs : List V} {K : St → Prop} (ho : o.op = .field T (.tmp r) f) (hd : o.dst = some d) (hdN : d < N)
    (hf : fLoc P T f = some (off, n, g)) (hv : (st r).v = .agg cs) (hlen : off + n ≤ cs.length) (hk : K ((st.put r .hole).put d (mkV g ((cs.drop off).take n)))) : OT P N o st K := by
  intro B a w S fp next Q h hnx
  have hr := h.rv r
  rw [hv] at hr
  obtain ⟨u, Fm, h1, h2, h3⟩ := run_fld ho hf hlen (show RV w S _ (.agg cs) (a.eval (.tmp r)) (fp r) from hr)
  unfold Oper.wp
  rw [h1]
  show next (a.put o.dst _) _
  rw [hd]
  have hv2 := RV.frame (CS.le.refl _) (fun x u h => AlOk.drop r h) (Agree.refl w S) _ _ _ _ h2 (Agree.refl _ _) h3
  exact hnx _ _ _ _ _ hk ((h.drop r).put d _ _ (fp r) hdN hv2 (fun i _ => dj_drop h r i) (h.djS r) (h.lt r) (h.own r))

theorem ot_mm {o : Oper} {d : Nat} {c : Call} {mx : Bool} {x y : Operand} {x' y' : XO} {k k' : IntKind} {a b : Int} {K : St → Prop} (ho : o.op = .call c) (hc : c.callee = .builtin (if mx then .max else .min)) (ha : c.args = #[x, y])
    (hd : o.dst = some d) (hdN : d < N) (hx : cO 0 x = some x') (hy : cO 0 y = some y') (h1 : st.val x' = .lit (.int k a)) (h2 : st.val y' = .lit (.int k' b))
    (hk : K (st.put d (.lit (.int k (if mx then (if b > a then b else a) else (if b < a then b else a)))))) : OT P N o st K :=
  ot_lit hd hdN (fun B ac w S fp hr => by
    cases mx <;> simp only [Bool.false_eq_true, if_false, if_true] at hc ⊢ <;>
      simp [execOp, ho, resolve, hc, ha, invoke, builtin, Builtin.min_, Builtin.max_, hr.lit hx h1, hr.lit hy h2, Builtin.min2, Builtin.max2, Deferred.ofValue]) hk
end
end Go.Proofs.YtainknkfjekngaaDoor.Vm
