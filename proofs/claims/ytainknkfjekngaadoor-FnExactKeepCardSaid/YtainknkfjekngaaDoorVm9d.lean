/- Structs and slices built; slices made and cut. -/
import Derived.Test.YtainknkfjekngaaDoorVm9c
namespace Go.Proofs.YtainknkfjekngaaDoor.Vm
open Go
set_option linter.unusedVariables false
set_option linter.unusedSimpArgs false

/-- A part of a composite: where it goes, how many cells it takes, what goes there. -/
structure Prt where
  off : Nat
  n : Nat
  x : XO

def putAt (acc : List V) (off : Nat) (cs : List V) : List V := acc.take off ++ (cs ++ acc.drop (off + cs.length))

def bldF : List Prt → St → List V → Option (St × List V)
  | [], st, acc => some (st, acc)
  | p :: l, st, acc => match (st.val p.x).cells with
    | some cs => if cs.length = p.n ∧ p.off + p.n ≤ acc.length then
        if (st.val p.x).cp = true then bldF l st (putAt acc p.off cs)
        else match p.x with
          | .t q => bldF l (st.put q .hole) (putAt acc p.off cs)
          | _ => none
      else none
    | none => none

def chunk (n : Nat) : Nat → List V → List (List V)
  | 0, _ => []
  | k + 1, l => l.take n :: chunk n k (l.drop n)

section
variable {P : Program} {B : Base P} {N : Nat} {st : St} {a : Act} {w : World} {S : CS} {fp : Nat → CS}

theorem RL.putAt {A : AlSem} {acc cs : List V} {us vs : List Value} {F G : CS} {off : Nat} (h : RL w S A acc us F) (hc : RL w S A cs vs G) (ho : off + cs.length ≤ acc.length) (hd : F.dj G) :
    RL w S A (putAt acc off cs) (us.take off ++ (vs ++ us.drop (off + cs.length))) (F.un G) := by
  have h3 := list_three acc off cs.length ho
  rw [h3] at h
  obtain ⟨ua, ub, Fa, Fb, rfl, la, lb, dab, ha, hb⟩ := RL.split h
  obtain ⟨ub1, ub2, Fb1, Fb2, rfl, lb1, lb2, db, hb1, hb2⟩ := RL.split hb
  have l1 := RL.length ha
  have l2 := RL.length hb1
  have e1 : (acc.take off).length = off := by rw [List.length_take]; omega
  have e2 : ((acc.drop off).take cs.length).length = cs.length := by rw [List.length_take, List.length_drop]; omega
  rw [e1] at l1; rw [e2] at l2
  have t1 : (ua ++ (ub1 ++ ub2)).take off = ua := by rw [← l1]; simp
  have t2 : (ua ++ (ub1 ++ ub2)).drop (off + cs.length) = ub2 := by
    rw [← List.append_assoc, show off + cs.length = (ua ++ ub1).length by simp [l1, l2]]; simp
  rw [t1, t2]
  refine RL.append (Fa := Fa) (Fb := G.un Fb2) (la.trans (CS.le_un_l _ _)) (CS.un_le (CS.le_un_r _ _) ((lb2.trans lb).trans (CS.le_un_l _ _))) ?_ ha (RL.append (CS.le_un_l _ _) (CS.le_un_r _ _) ?_ hc hb2)
  · intro b x h1 h2
    rcases h2 with h2 | h2
    · exact hd b x (la b x h1) h2
    · exact dab b x h1 (lb2 b x h2)
  · exact fun b x h1 h2 => hd b x (lb b x (lb2 b x h2)) h1

theorem fold_put : ∀ (vs : List Value) (k off : Nat) (us : List Value), off + k + vs.length ≤ us.length →
    (vs.zipIdx k).foldl (fun (cs : Array Value) (x : Value × Nat) => cs.setIfInBounds (off + x.2) x.1) us.toArray = (us.take (off + k) ++ (vs ++ us.drop (off + k + vs.length))).toArray
  | [], k, off, us, h => by simp
  | v :: vs, k, off, us, h => by
    simp only [List.zipIdx_cons, List.foldl_cons, List.length_cons] at *
    rw [List.setIfInBounds_toArray, fold_put vs (k + 1) off _ (by simp; omega)]
    congr 1
    rw [← Nat.add_assoc, List.take_succ_eq_append_getElem (by simp; omega)]
    rw [List.take_set, List.set_eq_of_length_le (by simp; omega), List.getElem_set_self, List.append_assoc]
    rw [List.drop_set_of_lt (by omega)]
    simp only [List.cons_append, List.nil_append]
    rw [show off + k + 1 + vs.length = off + k + (vs.length + 1) by omega]

/-- What a composite under way holds. -/
structure Und (B : Base P) (N : Nat) (st : St) (a : Act) (w : World) (S : CS) (fp : Nat → CS) (acc : List V) (us : List Value) (F : CS) : Prop where
  h : Rl B N st a w S fp
  r : RL w S (AlOk w a st) acc us F
  d : ∀ i, F.dj (fp i)
  s : F.dj S
  l : ∀ b x, F b x → b < w.heap.size
  o : ∀ b x, F b x → B.O0 b x ∨ fresh B.w0 b x

/-- The parts as the machine has them, beside the model's. -/
def PrtOk (place : Nat → Option (Nat × Nat)) : List (Nat × Operand) → List Prt → Prop
  | [], [] => True
  | (i, x) :: l, p :: ps => place i = some (p.off, p.n) ∧ (∃ m, cO m x = some p.x) ∧ PrtOk place l ps
  | _, _ => False

theorem bld_spec {place : Nat → Option (Nat × Nat)} : ∀ (l : List (Nat × Operand)) (ps : List Prt) (st : St) (fp : Nat → CS) (acc : List V) (us : List Value) (F : CS) (st' : St) (acc' : List V),
    PrtOk place l ps → bldF ps st acc = some (st', acc') → Und B N st a w S fp acc us F →
    ∃ us' F' fp', Instr.fill place us.toArray (l.map fun p => (p.1, a.eval p.2)) = some us'.toArray ∧ Und B N st' a w S fp' acc' us' F' ∧ us'.length = us.length ∧ acc'.length = acc.length
  | [], [], st, fp, acc, us, F, st', acc', _, hb, hu => by
    simp only [bldF, Option.some.injEq, Prod.mk.injEq] at hb
    obtain ⟨rfl, rfl⟩ := hb
    exact ⟨us, F, fp, rfl, hu, rfl, rfl⟩
  | (i, x) :: l, p :: ps, st, fp, acc, us, F, st', acc', hp, hb, hu => by
    obtain ⟨hpl, ⟨m, hx⟩, hp'⟩ := hp
    simp only [bldF] at hb
    split at hb
    · rename_i cs hcs
      split at hb
      · rename_i hln
        have hv := hu.h.val hx
        obtain ⟨hc1, hc2⟩ := V.cells_spec hv hcs
        have hul := RL.length hu.r
        have hvl := RL.length hc1
        have hle0 : p.off + cs.length ≤ acc.length := by omega
        have hsz : (a.eval x).cells.size = p.n := by rw [← hln.1, ← hvl]; simp
        have hfill : ∀ r, Instr.fill place ((us.take p.off ++ ((a.eval x).cells.toList ++ us.drop (p.off + cs.length))).toArray) (l.map fun p => (p.1, a.eval p.2)) = some r →
            Instr.fill place us.toArray (((i, x) :: l).map fun p => (p.1, a.eval p.2)) = some r := by
          intro r hr
          simp only [List.map_cons, Instr.fill, hpl]
          rw [if_neg (by simp [hsz]; omega)]
          rw [← hr]
          congr 1
          have := fold_put (a.eval x).cells.toList 0 p.off us (by simp [hsz]; omega)
          simp only [Nat.add_zero, Array.length_toList, hsz] at this
          rw [hln.1, ← this]
          rw [← Array.foldl_toList, Array.toList_zipIdx]
        have hlen1 : (putAt acc p.off cs).length = acc.length := by unfold putAt; simp; omega
        have hlen2 : (us.take p.off ++ ((a.eval x).cells.toList ++ us.drop (p.off + cs.length))).length = us.length := by simp [hsz]; omega
        split at hb
        · rename_i hcp
          have hc0 := (V.cells_spec (RV.cp_none _ _ _ hcp hv) hcs).1
          have hr := hu.r.putAt hc0 hle0 (CS.none_dj _).symm
          have hle : (F.un CS.none).le F := CS.un_le (CS.le.refl _) (CS.none_le _)
          obtain ⟨us', F', fp', h1, h2, h3, h4⟩ := bld_spec l ps st fp _ _ _ st' acc' hp' hb ⟨hu.h, hr, fun i => (hu.d i).mono hle (CS.le.refl _), hu.s.mono hle (CS.le.refl _), fun b x hx => hu.l b x (hle b x hx), fun b x hx => hu.o b x (hle b x hx)⟩
          exact ⟨us', F', fp', hfill _ h1, h2, h3.trans hlen2, h4.trans hlen1⟩
        · split at hb
          · rename_i q hq
            have hA : ∀ x u, AlOk w a st x u → AlOk w a (st.put q .hole) x u := fun x u h => AlOk.drop q h
            have hc0 := RL.frame (CS.le.refl _) hA (Agree.refl w S) _ _ _ _ (CS.le.refl _) (Agree.refl _ _) hc1
            have hr0 := RL.frame (CS.le.refl _) hA (Agree.refl w S) _ _ _ _ (CS.le.refl _) (Agree.refl _ _) hu.r
            rw [hq] at hc0
            have hr := hr0.putAt hc0 hle0 (hu.d q)
            have hund : Und B N (st.put q .hole) a w S (fun i => if i = q then CS.none else fp i) _ _ _ := ⟨hu.h.drop q, hr, fun i => (by
                by_cases e : i = q
                · simp only [e, if_true]; exact (CS.none_dj _).symm
                · simp only [e, if_false]
                  rintro b x (h1 | h1) h2
                  · exact hu.d i b x h1 h2
                  · exact hu.h.dj q i (Ne.symm e) b x h1 h2), fun b x hx => hx.elim (hu.s b x) (hu.h.djS q b x), fun b x hx => hx.elim (hu.l b x) (hu.h.lt q b x), fun b x hx => hx.elim (hu.o b x) (hu.h.own q b x)⟩
            obtain ⟨us', F', fp', h1, h2, h3, h4⟩ := bld_spec l ps (st.put q .hole) _ _ _ _ st' acc' hp' hb hund
            exact ⟨us', F', fp', hfill _ h1, h2, h3.trans hlen2, h4.trans hlen1⟩
          · cases hb
      · cases hb
    · cases hb
  | [], _ :: _, _, _, _, _, _, _, _, hp, _, _ => hp.elim
  | _ :: _, [], _, _, _, _, _, _, _, hp, _, _ => hp.elim

/-- The places of a struct's fields. -/
def fPl (P : Program) : List Field → Option (List (Nat × Nat))
  | [] => some []
  | f :: l => match P.info? f.type, fPl P l with
    | some i, some r => some ((f.offset, i.size) :: r)
    | _, _ => none

theorem run_fPl (w : World) : ∀ (fs : List Field) (r : List (Nat × Nat)), fPl P fs = some r →
    (fs.mapM (m := Sem) fun f => do pure (f.offset, ← sizeOf f.type)).run P w = .ok r w
  | [], r, h => by simp only [fPl, Option.some.injEq] at h; subst h; rfl
  | f :: l, r, h => by
    simp only [fPl] at h
    split at h
    · rename_i i r' hi hr
      obtain rfl := Option.some.inj h
      rw [List.mapM_cons]
      simp only [Sem.run_bind, run_sizeOf' hi, Result.andThen, Sem.run_pure, run_fPl w l r' hr]
    · cases h

theorem ot_bld {o : Oper} {d T : Nat} {parts : Array (Nat × Operand)} {fs : Array Field} {pl : List (Nat × Nat)} {ps : List Prt} {zs : List V} {st' : St} {acc : List V} {K : St → Prop} (ho : o.op = .build T parts) (hd : o.dst = some d) (hdN : d < N)
    (hT : P.underlying T = some (.struct fs)) (hz : zsOf P T = some zs) (hpl : fPl P fs.toList = some pl) (hps : PrtOk (fun i => pl[i]?) parts.toList ps) (hb : bldF ps st zs = some (st', acc)) (hk : K (st'.put d (.agg acc))) : OT P N o st K := by
  intro B a w S fp next Q h hnx
  obtain ⟨i, z, hi, hz0, hzs, hsz, hone, hrl⟩ := zsOf_spec hz
  obtain ⟨us', F', fp', h1, h2, h3, h4⟩ := bld_spec (a := a) (w := w) (S := S) _ _ st fp zs z.cells.toList CS.none st' acc hps hb ⟨h, hrl _ _ _, fun _ => CS.none_dj _, CS.none_dj _, fun _ _ h => h.elim, fun _ _ h => h.elim⟩
  unfold Oper.wp
  have hpl' : (fs.mapM (m := Sem) fun f => do pure (f.offset, ← sizeOf f.type)).run P w = .ok pl.toArray w := by
    have := run_fPl (P := P) w fs.toList pl hpl
    have he : fs = fs.toList.toArray := by simp
    rw [he, List.mapM_toArray]
    simp only [Sem.run_map, this]; rfl
  have hrun : (execOp a.eval o).run P w = .ok (.value (.agg us'.toArray)) w := by
    have hfl : Instr.fill (fun i => pl.toArray[i]?) z.cells (parts.map fun (i, x) => (i, a.eval x)).toList = some us'.toArray := by
      rw [← h1]
      simp
    simp only [execOp, ho, Instr.build, Sem.run_bind, run_zeroValue' hi hz0, Result.andThen, run_underlying hT]
    simp only [hpl', hfl]
    rfl
  rw [hrun]
  show next (a.put o.dst _) _
  rw [hd]
  exact hnx _ _ _ _ _ hk (h2.h.put d _ _ F' hdN ⟨us', rfl, h2.r⟩ (fun i _ => h2.d i) h2.s h2.l h2.o)

theorem rll_chunk {A : AlSem} {n : Nat} : ∀ (k : Nat) (vs : List V) (us : List Value) (F : CS), vs.length = k * n → RL w S A vs us F →
    ∃ uss, RLL w S A (chunk n k vs) uss F ∧ uss.flatten = us ∧ (∀ e ∈ chunk n k vs, e.length = n)
  | 0, vs, us, F, hl, h => by
    have : vs = [] := by simpa using hl
    subst this
    simp only [RL] at h; subst h
    exact ⟨[], rfl, rfl, by simp [chunk]⟩
  | k + 1, vs, us, F, hl, h => by
    rw [Nat.add_mul, Nat.one_mul] at hl
    rw [← List.take_append_drop n vs] at h
    obtain ⟨ua, ub, Fa, Fb, rfl, la, lb, dab, ha, hb⟩ := RL.split h
    obtain ⟨uss, h1, h2, h3⟩ := rll_chunk (n := n) k (vs.drop n) ub Fb (by simp; omega) hb
    refine ⟨ua :: uss, ⟨ua, uss, Fa, Fb, rfl, la, lb, dab, ha, h1⟩, by simp [h2], ?_⟩
    intro e he
    rcases List.mem_cons.1 he with rfl | he
    · simp; omega
    · exact h3 e he

theorem chunk_length (n : Nat) : ∀ (k : Nat) (l : List V), (chunk n k l).length = k
  | 0, _ => rfl
  | k + 1, l => by simp [chunk, chunk_length n k]

theorem rl_reps {A : AlSem} {zs : List V} {us : List Value} (h : RL w S A zs us CS.none) : ∀ k : Nat, RL w S A (List.replicate k zs).flatten (List.replicate k us).flatten CS.none
  | 0 => rfl
  | k + 1 => by
    simp only [List.replicate_succ, List.flatten_cons]
    exact RL.append (CS.le.refl _) (CS.le.refl _) (CS.none_dj _) h (rl_reps h k)

theorem made_flat (z : Array Value) (hz : 0 < z.size) (k : Nat) : ((Array.range (k * z.size)).map fun x => z[x % z.size]!).toList = (List.replicate k z.toList).flatten := by
  apply List.ext_getElem?
  intro i
  have hfl := flat_len (List.replicate k z.toList) (n := z.size) (by simp)
  simp only [List.length_replicate] at hfl
  by_cases hi : i < k * z.size
  · have hq : i / z.size < k := Nat.div_lt_of_lt_mul (by rw [Nat.mul_comm]; exact hi)
    have hm : i % z.size < z.size := Nat.mod_lt _ hz
    have hg := flat_get (List.replicate k z.toList) (n := z.size) (by simp) (i / z.size) (i % z.size) hm
    rw [Nat.mul_comm, Nat.div_add_mod] at hg
    rw [hg]
    simp [hi, hq, hm]
  · rw [List.getElem?_eq_none (by simp; omega), List.getElem?_eq_none (by omega)]

theorem Und.row {acc : List V} {us : List Value} {F : CS} (hu : Und B N st a w S fp acc us F) {n k d : Nat} {t : TypeId} (hdN : d < N) (hl : acc.length = k * n) (hkM : k ≤ 9223372036854775807) :
    ∃ fp', Rl B N (st.put d (.sl true n (chunk n k acc))) (a.put (some d) (.slice (some ⟨w.heap.size, 0, none⟩) k k)) (w.alloc (.cells us.toArray t)) S fp' := by
  obtain ⟨uss, h1, h2, h3⟩ := rll_chunk k acc us F hl hu.r
  have hul := RL.length hu.r
  have hrow : ∀ A', (∀ x u, AlOk w a st x u → A' x u) → RV (w.alloc (.cells us.toArray t)) S A' (.sl true n (chunk n k acc)) (.slice (some ⟨w.heap.size, 0, none⟩) k k) ((CS.row w.heap.size 0 (k * n)).un F) := by
    intro A' hA
    have := grown_row (w1 := w) (cap := k) (c := us.toArray) (t := t) rfl hu.h.ltS hu.l (RLL.frame (CS.le.refl _) hA (Agree.refl _ _) _ _ _ _ (CS.le.refl _) (Agree.refl _ _) h1) h3 (by rw [chunk_length]; exact ⟨Nat.le_refl _, hkM⟩) (by simp; omega) (by rw [chunk_length, h2, List.take_of_length_le (by simp; omega)]) rfl rfl
    rwa [chunk_length] at this
  refine ⟨_, hu.h.give (O := F) (F' := (CS.row w.heap.size 0 (k * n)).un F) d hdN ((pres_alloc w (.cells us.toArray t)).mono (fun _ _ _ h => h.elim)) (fun b x hx => ⟨hu.o b x hx, fun i hi => hu.d i b x hx hi, fun hs => hu.s b x hx hs⟩) hrow ?_⟩
  intro b x hx
  rw [size_alloc']
  rcases hx with ⟨rfl, _, _⟩ | hx
  · exact ⟨.inr (Nat.le_refl _), by omega⟩
  · exact ⟨.inl hx, Nat.lt_succ_of_lt (hu.l b x hx)⟩

theorem ot_bldS {o : Oper} {d T k : Nat} {parts : Array (Nat × Operand)} {ps : List Prt} {e : TypeId} {zs : List V} {st' : St} {acc : List V} {K : St → Prop} (ho : o.op = .buildSlice T k parts) (hd : o.dst = some d) (hdN : d < N)
    (hT : P.underlying T = some (.slice e)) (hz : zsOf P e = some zs) (hn0 : 0 < zs.length) (hk24 : k * zs.length ≤ 2 ^ 24) (hps : PrtOk (fun i => some (i * zs.length, zs.length)) parts.toList ps)
    (hb : bldF ps st (List.replicate k zs).flatten = some (st', acc)) (hk : K (st'.put d (.sl true zs.length (chunk zs.length k acc)))) : OT P N o st K := by
  intro B a w S fp next Q h hnx
  obtain ⟨i, z, hi, hz0, hzs, hsz, hone, hrl⟩ := zsOf_spec hz
  obtain ⟨us', F', fp', h1, h2, h3, h4⟩ := bld_spec (a := a) (w := w) (S := S) _ _ st fp (List.replicate k zs).flatten (List.replicate k z.cells.toList).flatten CS.none st' acc hps hb ⟨h, rl_reps (hrl _ _ _) k, fun _ => CS.none_dj _, CS.none_dj _, fun _ _ h => h.elim, fun _ _ h => h.elim⟩
  have hal : acc.length = k * zs.length := by
    rw [h4, flat_len (n := zs.length) _ (by simp)]; simp
  obtain ⟨fp2, hfin⟩ := h2.row (n := zs.length) (k := k) (t := e) hdN hal (by have := Nat.le_mul_of_pos_right k hn0; omega)
  unfold Oper.wp
  have hrun : (execOp a.eval o).run P w = .ok (.value (.slice (some ⟨w.heap.size, 0, none⟩) k k)) (w.alloc (.cells us'.toArray e)) := by
    have hz0' : 0 < z.cells.size := by omega
    have hfl : ∀ c : Array Value, c.toList = (List.replicate k z.cells.toList).flatten → Instr.fill (fun i => some (i * zs.length, zs.length)) c (parts.map fun (i, x) => (i, a.eval x)).toList = some us'.toArray := by
      intro c hc
      rw [← h1, ← hc]
      simp
    have hm := made_flat z.cells hz0' k
    rw [hzs] at hm
    have hfl2 := hfl _ hm
    simp only [execOp, ho, Instr.buildSlice, Sem.run_bind, run_underlying hT, Result.andThen, run_sizeOf' hi, hsz]
    rw [if_neg (by omega)]
    by_cases hk0 : k = 0
    · subst hk0
      simp only [Nat.zero_mul, if_true, Sem.run_bind, Sem.run_pure, Result.andThen]
      simp only [Nat.zero_mul] at hfl2
      have he2 : ∀ f : Nat → Value, (Array.range 0).map f = #[] := by simp
      rw [he2] at hfl2
      simp only [he2]
      rw [hfl2]
      simp [newRow]
    · rw [if_neg (by intro h0; rcases Nat.mul_eq_zero.1 h0 with h0 | h0 <;> omega)]
      simp only [Sem.run_bind, run_zeroValue' hi hz0, Result.andThen, Sem.run_pure, hzs]
      rw [hfl2]
      simp [newRow]
  rw [hrun]
  show next (a.put o.dst _) _
  rw [hd]
  exact hnx _ _ _ _ _ hk hfin

/-- A slice of zero values. -/
theorem ot_mkS {o : Oper} {d T n m by_ : Nat} {x y : Operand} {x' y' : XO} {k k2 : IntKind} {l : Nat} {e : TypeId} {zs : List V} {K : St → Prop} (ho : o.op = .makeSlice T x y) (hd : o.dst = some d) (hdN : d < N)
    (hT : P.underlying T = some (.slice e)) (hz : zsOf P e = some zs) (hn0 : 0 < zs.length) (hx : cO n x = some x') (hy : cO m y = some y') (h1 : st.val x' = .lit (.int k l)) (h2 : st.val y' = .lit (.int k2 l))
    (hby : slE P T = some (zs.length, by_)) (hb : by_ * l ≤ 140737488355328) (hb2 : l ≤ 9223372036854775807) (hk : K (st.put d (.sl true zs.length (List.replicate l zs)))) : OT P N o st K := by
  intro B a w S fp next Q h hnx
  obtain ⟨i, z, hi, hz0, hzs, hsz, hone, hrl⟩ := zsOf_spec hz
  obtain ⟨e', i', z', hu', hi', hz', hs', hzs', _, hby'⟩ := slE_spec hby
  rw [hT] at hu'; cases hu'
  rw [hi] at hi'; cases hi'
  have hreps : ∀ (S : CS) (A : AlSem) (k : Nat), RLL w S A (List.replicate k zs) (List.replicate k z.cells.toList) CS.none := by
    intro S A k
    induction k with
    | zero => rfl
    | succ k ih => exact ⟨_, _, CS.none, CS.none, rfl, CS.none_le _, CS.none_le _, CS.none_dj _, hrl _ _ _, ih⟩
  unfold Oper.wp
  have hrun : (execOp a.eval o).run P w = .ok (.value (.slice (some ⟨w.heap.size, 0, none⟩) l l)) (w.alloc (.cells (madeCells z.cells (l * i.size)) e)) := by
    have hbi : (i.bytes : Int) * (l : Int) ≤ 281474976710656 := by
      have h3 : ((i.bytes * l : Nat) : Int) ≤ 281474976710656 := by rw [hby']; omega
      rwa [Int.natCast_mul] at h3
    have := run_make (P := P) w T e i z hT hi hz0 k k2 l l (by omega) (by omega) hbi (by omega)
    simp only [Int.toNat_natCast] at this
    simp only [execOp, ho, h.lit hx h1, h.lit hy h2, Sem.run_bind, this]; rfl
  rw [hrun]
  show next (a.put o.dst _) _
  rw [hd]
  have hrow : ∀ A', (∀ x u, AlOk w a st x u → A' x u) → RV (w.alloc (.cells (madeCells z.cells (l * i.size)) e)) S A' (.sl true zs.length (List.replicate l zs)) (.slice (some ⟨w.heap.size, 0, none⟩) l l) ((CS.row w.heap.size 0 (l * zs.length)).un CS.none) := by
    intro A' hA
    have := grown_row (w1 := w) (n := zs.length) (cap := l) (c := madeCells z.cells (l * i.size)) (t := e) (S := S) (A := A') rfl h.ltS (fun _ _ h => h.elim) (hreps S A' l) (by simp) (by rw [List.length_replicate]; exact ⟨Nat.le_refl _, hb2⟩) (by rw [size_madeCells, hsz]) (by
      have h0 := made_flat z.cells (by omega) l
      rw [hzs] at h0
      rw [madeCells, hsz, hzs, h0, List.take_of_length_le]
      rw [flat_len (n := zs.length) _ (by simp [hzs])]; simp) rfl rfl
    rwa [List.length_replicate] at this
  refine hnx _ _ _ _ _ hk (h.give (O := CS.none) d hdN (pres_alloc w (.cells (madeCells z.cells (l * i.size)) e)) (fun _ _ h => h.elim) hrow ?_)
  intro b x hx
  rw [size_alloc']
  rcases hx with ⟨rfl, _, _⟩ | hx
  · exact ⟨.inr (Nat.le_refl _), by omega⟩
  · exact hx.elim

theorem bnd_run {y : Operand} {y' : XO} {n dflt r : Nat} {c : BoundsCode} {m : Nat} (hmn : n ≤ m) (hr : Rl B N st a w S fp) (hy : cO 0 y = some y') (hb : bnd n dflt (some (st.val y')) = some r) : (Instr.sliceBound (a.eval y) m c).run P w = .ok r w ∧ r ≤ n := by
  unfold bnd at hb
  split at hb
  · rename_i h; cases h
  · rename_i k z h
    have hz := hr.lit hy (Option.some.inj h)
    split at hb
    · rename_i hz0
      obtain rfl := Option.some.inj hb
      have : 0 ≤ z ∧ z ≤ (m : Int) := by omega
      exact ⟨by simp [Instr.sliceBound, hz, asIntOf, this], by omega⟩
    · cases hb
  · cases hb

/-- An operand that may lack. -/
def CoB : Option Operand → Option XO → Prop
  | none, none => True
  | some y, some y' => cO 0 y = some y'
  | _, _ => False

theorem bnds_run {lo hi : Option Operand} {lo' hi' : Option XO} {n cap l h : Nat} (hr : Rl B N st a w S fp) (hc : n ≤ cap) (hlo : CoB lo lo') (hhi : CoB hi hi') (h2 : bnd n n (hi'.map st.val) = some h) (h3 : bnd h 0 (lo'.map st.val) = some l) :
    (Instr.sliceBounds true n cap (lo.map a.eval) (hi.map a.eval) none).run P w = .ok (l, h, cap) w ∧ l ≤ h ∧ h ≤ n := by
  match hi, hi', hhi with
  | none, none, _ =>
    simp only [Option.map_none, bnd, Option.some.injEq] at h2
    subst h2
    match lo, lo', hlo with
    | none, none, _ =>
      simp only [Option.map_none, bnd, Option.some.injEq] at h3
      subst h3
      exact ⟨by simp [Instr.sliceBounds], by omega, by omega⟩
    | some y, some y', hy =>
      obtain ⟨h4, h5⟩ := bnd_run (P := P) (c := .sliceB) (Nat.le_refl _) hr hy h3
      exact ⟨by simp [Instr.sliceBounds, h4], by omega, by omega⟩
  | some z, some z', hz =>
    obtain ⟨h6, h7⟩ := bnd_run (P := P) (c := .sliceAcap) hc hr hz h2
    match lo, lo', hlo with
    | none, none, _ =>
      simp only [Option.map_none, bnd, Option.some.injEq] at h3
      subst h3
      exact ⟨by simp [Instr.sliceBounds, h6], by omega, by omega⟩
    | some y, some y', hy =>
      obtain ⟨h4, h5⟩ := bnd_run (P := P) (c := .sliceB) (Nat.le_refl _) hr hy h3
      exact ⟨by simp [Instr.sliceBounds, h6, h4], by omega, by omega⟩

/-- A cut of a slice lies in the slice's own cells. -/
theorem rv_cut {A : AlSem} {own : Bool} {n : Nat} {es : List (List V)} {ad : Option Addr} {cap l h : Nat} {F : CS} (hv : RV w S A (.sl own n es) (.slice ad es.length cap) F) (hl : l ≤ h) (hh : h ≤ es.length) :
    RV w S A (.sl own n ((es.take h).drop l)) (sliced ad l h cap n) F := by
  obtain ⟨a', cap', he, hcap, hr⟩ := hv
  cases he
  have hlen : ((es.take h).drop l).length = h - l := by simp; omega
  refine ⟨_, cap - l, by rw [hlen]; rfl, by rw [hlen]; omega, ?_⟩
  rcases hr with ⟨rfl, rfl⟩ | ⟨rfl, rfl, rfl⟩ | ⟨b, o, uss, rfl, hen, hc, hO, hN, hrr⟩
  · exact .inl ⟨by simp, rfl⟩
  · refine .inr (.inl ⟨by split <;> rfl, by simp, by omega⟩)
  · by_cases hcl : cap = l
    · -- nothing is left
      have hll : l = es.length := by omega
      have he0 : (es.take h).drop l = [] := by rw [List.drop_eq_nil_of_le]; simp; omega
      refine .inr (.inr ⟨b, o, [], by rw [if_pos hcl], by rw [he0]; simp, by rw [he0]; simp, ?_, by rw [he0]; simp, by rw [he0]; rfl⟩)
      intro _ x hx; rw [hcl, Nat.sub_self, Nat.zero_mul] at hx; omega
    · have h3 : es = es.take l ++ ((es.take h).drop l ++ es.drop h) := by
        have h1 := list_three es l (h - l) (by omega)
        rw [show l + (h - l) = h by omega] at h1
        rw [List.drop_take]; exact h1
      have hsp : ∃ ua ub uc, uss = ua ++ (ub ++ uc) ∧ ua.length = l ∧ ub.length = h - l ∧ RLL w S A ((es.take h).drop l) ub (if own then F.minus (CS.row b o (cap * n)) else CS.none) := by
        rw [h3] at hrr
        obtain ⟨ua, ubc, Fa, Fb, rfl, la, lb, dab, ha, hb⟩ := RLL.split hrr
        obtain ⟨ub, uc, Fb1, Fb2, rfl, lb1, lb2, db, hb1, hb2⟩ := RLL.split hb
        have q1 := RLL.length ha
        have q2 := RLL.length hb1
        refine ⟨ua, ub, uc, rfl, by rw [q1]; simp; omega, by rw [q2, hlen], hb1.mono (lb1.trans lb)⟩
      obtain ⟨ua, ub, uc, rfl, l1, l2, hub⟩ := hsp
      refine .inr (.inr ⟨b, o + l * n, ub, by rw [if_neg hcl, Option.map_some, addr_add], fun e he => hen e (List.mem_of_mem_take (List.mem_of_mem_drop he)), ?_, ?_, ?_, ?_⟩)
      · intro i k hi hk
        rw [hlen] at hi
        have := hc (l + i) k (by omega) hk
        rw [show o + l * n + (i * n + k) = o + ((l + i) * n + k) by rw [Nat.add_mul]; omega, this]
        rw [List.getElem?_append_right (by omega), l1, show l + i - l = i by omega, List.getElem?_append_left (by omega)]
      · intro e x hx
        rw [Nat.sub_mul] at hx
        have := hO e (l * n + x) (by omega)
        rw [← Nat.add_assoc] at this; exact this
      · intro e x hx
        rw [hlen, Nat.sub_mul] at hx
        have h5 := Nat.mul_le_mul_right n hh
        have := hN e (l * n + x) (by omega)
        rw [← Nat.add_assoc] at this; exact this
      · cases own with
        | false => exact hub
        | true =>
          refine hub.mono (fun b' x hx => ⟨hx.1, fun hh => hx.2 ?_⟩)
          obtain ⟨rfl, h1, h2⟩ := hh
          rw [Nat.sub_mul] at h2
          exact ⟨rfl, by omega, by omega⟩

theorem execOp_slice {o : Oper} {T e : TypeId} {i : TypeInfo} {x : Operand} {lo hi : Option Operand} {ad : Option Addr} {len cap l h : Nat} (ho : o.op = .slice T x lo hi none) (hT : P.underlying T = some (.slice e)) (hi' : P.info? e = some i)
    (hx : a.eval x = .slice ad len cap) (hb : (Instr.sliceBounds true len cap (lo.map a.eval) (hi.map a.eval) none).run P w = .ok (l, h, cap) w) :
    (execOp a.eval o).run P w = .ok (.value (sliced ad l h cap i.size)) w := by
  simp only [execOp, ho, hx, Sem.run_bind]
  simp [Instr.sliceAt, run_underlying hT, Instr.slice, hb, run_sizeOf' hi', sliced]

theorem ot_cutS {o : Oper} {d m n T : Nat} {x : Operand} {x' : XO} {lo hi : Option Operand} {lo' hi' : Option XO} {es : List (List V)} {l h by_ : Nat} {K : St → Prop} (ho : o.op = .slice T x lo hi none) (hd : o.dst = some d) (hdN : d < N) (hT : slE P T = some (n, by_))
    (hx : cO m x = some x') (hlo : CoB lo lo') (hhi : CoB hi hi') (h1 : st.val x' = .sl false n es) (h2 : bnd es.length es.length (hi'.map st.val) = some h) (h3 : bnd h 0 (lo'.map st.val) = some l) (hk : K (st.put d (.sl false n ((es.take h).drop l)))) : OT P N o st K := by
  intro B a w S fp next Q hr hnx
  obtain ⟨e, i, z, hu, hi0, hz, hs, hzs, hn0, hby⟩ := slE_spec hT
  have hv := hr.val hx
  rw [h1] at hv
  have hv0 := RV.cp_none (.sl false n es) _ _ rfl hv
  obtain ⟨ad, cap, hux, hcap, _⟩ := id hv
  obtain ⟨hb, hl, hh⟩ := bnds_run (P := P) hr hcap.1 hlo hhi h2 h3
  unfold Oper.wp
  rw [execOp_slice ho hu hi0 hux hb]
  show next (a.put o.dst _) _
  rw [hd, hs]
  rw [hux] at hv0
  exact hnx _ _ _ _ _ hk (hr.put_cp d _ _ CS.none hdN (rv_cut hv0 hl hh) rfl)

theorem ot_cutT {o : Oper} {d q n T : Nat} {lo hi : Option Operand} {lo' hi' : Option XO} {es : List (List V)} {l h by_ : Nat} {K : St → Prop} (ho : o.op = .slice T (.tmp q) lo hi none) (hd : o.dst = some d) (hdN : d < N) (hT : slE P T = some (n, by_))
    (hlo : CoB lo lo') (hhi : CoB hi hi') (h1 : (st q).v = .sl true n es) (h2 : bnd es.length es.length (hi'.map st.val) = some h) (h3 : bnd h 0 (lo'.map st.val) = some l) (hk : K ((st.put q .hole).put d (.sl true n ((es.take h).drop l)))) : OT P N o st K := by
  intro B a w S fp next Q hr hnx
  obtain ⟨e, i, z, hu, hi0, hz, hs, hzs, hn0, hby⟩ := slE_spec hT
  have hv := hr.rv q
  rw [h1] at hv
  obtain ⟨ad, cap, hux, hcap, _⟩ := id hv
  obtain ⟨hb, hl, hh⟩ := bnds_run (P := P) hr hcap.1 hlo hhi h2 h3
  unfold Oper.wp
  rw [execOp_slice ho hu hi0 (x := .tmp q) hux hb]
  show next (a.put o.dst _) _
  rw [hd, hs]
  rw [hux] at hv
  have hv2 := RV.frame (CS.le.refl _) (fun x u h => AlOk.drop q h) (Agree.refl w S) _ _ _ _ (CS.le.refl _) (Agree.refl _ _) (rv_cut hv hl hh)
  exact hnx _ _ _ _ _ hk ((hr.drop q).put d _ _ (fp q) hdN hv2 (fun i _ => dj_drop hr q i) (hr.djS q) (hr.lt q) (hr.own q))
end
end Go.Proofs.YtainknkfjekngaaDoor.Vm
