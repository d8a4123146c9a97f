/- Code over typed frames. -/
import Derived.Test.YtainknkfjekngaaDoorT4
namespace Go.Proofs.YtainknkfjekngaaDoor.Vm
open Go
set_option linter.unusedVariables false
set_option linter.unusedSimpArgs false

-- places of a frame, packed

structure Shs where
  pl : List (Nat × Bool)
  sh : List Sh
def mkT : List (Nat × Bool) → List SV → TSt
  | (t, k) :: ps, v :: vs => (t, ⟨v, bif k then 0 else 1, 0⟩) :: mkT ps vs
  | _, _ => []
def Shs.enc (s : Shs) (x : Den s.sh) : TSt := mkT s.pl (svL s.sh x)
def keepOk : List (Nat × Bool) → TSt → Bool
  | [], _ => true
  | (t, k) :: ps, ts => (bif k then Nat.beq (ts.get t).ver 0 else true) && keepOk ps ts
def Shs.dec (s : Shs) (ts : TSt) : Option (Den s.sh) :=
  bif keepOk s.pl ts && Nat.beq s.pl.length s.sh.length then decL s.sh (s.pl.map fun p => (ts.get p.1).v) else none
theorem mkT_get : ∀ (pl : List (Nat × Bool)) (vs : List SV) (ts : TSt), keepOk pl ts = true → pl.length = vs.length → vl vs = vl (pl.map fun p => (ts.get p.1).v) → V.na.go (vl vs) = true →
    ∀ i, (((mkT pl vs).get i).v.v = .hole ∨ (((mkT pl vs).get i).v.v = (ts.get i).v.v ∧ ((ts.get i).v.v).na = true)) ∧ (((mkT pl vs).get i).ver = 0 → (ts.get i).ver = 0)
  | [], [], ts, _, _, _, _, i => ⟨.inl rfl, fun h => by simp [mkT, TSt.get] at h⟩
  | (t, k) :: ps, v :: vs, ts, hk, hl, hv, hn, i => by
    simp only [keepOk, Bool.and_eq_true] at hk
    simp only [List.map_cons, SV.v.go, List.cons.injEq] at hv
    simp only [SV.v.go, V.na.go, Bool.and_eq_true] at hn
    simp only [mkT, get_cons]
    by_cases hi : i = t
    · subst hi
      rw [if_pos rfl]
      refine ⟨.inr ⟨hv.1, by rw [← hv.1]; exact hn.1⟩, fun h => ?_⟩
      cases k with
      | true => exact Nat.eq_of_beq_eq_true hk.1
      | false => simp at h
    · rw [if_neg hi]
      exact mkT_get ps vs ts hk.2 (by simpa using hl) hv.2 hn.2 i
  | [], _ :: _, _, _, hl, _, _, _ => by simp at hl
  | _ :: _, [], _, _, hl, _, _, _ => by simp at hl
theorem Shs.dec_v {s : Shs} {ts : TSt} {x : Den s.sh} (h : s.dec ts = some x) {P : Program} {B : Base P} {N : Nat} {a : Act} {w : World} {S : CS} {fp : Nat → CS} (hr : Rl B N ts.enc a w S fp) : Rl B N (s.enc x).enc a w S fp := by
  unfold Shs.dec at h
  rw [cond_if] at h
  split at h <;> try (cases h; done)
  rename_i hc
  simp only [Bool.and_eq_true] at hc
  have hl := Nat.eq_of_beq_eq_true hc.2
  have hd := decL_v h
  have key := mkT_get s.pl (svL s.sh x) ts hc.1 (by rw [svL_len]; exact hl) hd (svL_na _ _)
  exact hr.norm (fun i => (key i).1) (fun i => (key i).2)

-- footprints as masks

def SV.rm : SV → Nat
  | .al x => 2 ^ x.root
  | .tl x _ => 2 ^ x.root
  | .agg cs | .tup cs | .fn _ cs => go cs
  | _ => 0
where go : List SV → Nat
  | [] => 0
  | c :: cs => c.rm ||| go cs
mutual
theorem rm_v : ∀ (v : SV) (r : Nat), r ∈ v.v.rts → v.rm.testBit r = true
  | .al x, r, h => by
    simp only [SV.v, V.rts, List.mem_singleton] at h; subst h
    simp [SV.rm]
  | .tl x _, r, h => by
    simp only [SV.v, V.rts, List.mem_singleton] at h; subst h
    simp [SV.rm]
  | .agg cs, r, h => rms_v cs r h
  | .tup cs, r, h => rms_v cs r h
  | .fn _ cs, r, h => rms_v cs r h
  | .int .., r, h | .str _, r, h | .bool _, r, h | .lit _, r, h | .hole, r, h | .box _, r, h | .rp _, r, h | .sl .., r, h | .nil .., r, h | .bld .., r, h => by simp [SV.v, V.rts] at h
theorem rms_v : ∀ (cs : List SV) (r : Nat), r ∈ V.rts.go (vl cs) → (SV.rm.go cs).testBit r = true
  | [], r, h => by simp [SV.v.go, V.rts.go] at h
  | c :: cs, r, h => by
    simp only [SV.v.go, V.rts.go, List.mem_append] at h
    simp only [SV.rm.go, Nat.testBit_or, Bool.or_eq_true]
    exact h.imp (rm_v c r) (rms_v cs r)
end
def xoM (ts : TSt) : XO → Nat
  | .t n => 2 ^ n ||| (ts.get n).v.rm
  | _ => 0
def xosM (ts : TSt) : List XO → Nat
  | [] => 0
  | x :: l => xoM ts x ||| xosM ts l
def updM : List SUpd → Nat
  | [] => 0
  | u :: l => 2 ^ u.t ||| updM l
theorem xoM_v {ts : TSt} {x : XO} {m : Nat} (h : ∀ t, (xoM ts x).testBit t = true → m.testBit t = true) : FootX (fun t => m.testBit t = true) ts.enc x := by
  cases x with
  | t n =>
    refine ⟨h n (by simp [xoM]), fun r hr => h r ?_⟩
    simp only [xoM, Nat.testBit_or, Bool.or_eq_true]
    exact .inr (rm_v _ r hr)
  | _ => trivial
theorem xosM_v {ts : TSt} : ∀ {l : List XO} {m : Nat}, (∀ t, (xosM ts l).testBit t = true → m.testBit t = true) → ∀ y ∈ l, FootX (fun t => m.testBit t = true) ts.enc y
  | [], _, _, y, h => by cases h
  | x :: l, m, h, y, hy => by
    rcases List.mem_cons.1 hy with rfl | hy
    · exact xoM_v (fun t ht => h t (by simp only [xosM, Nat.testBit_or, ht, Bool.true_or]))
    · exact xosM_v (fun t ht => h t (by simp only [xosM, Nat.testBit_or, ht, Bool.or_true])) y hy
theorem updM_v : ∀ {us : List SUpd} {u : SUpd}, u ∈ us → (updM us).testBit u.t = true
  | [], _, h => by cases h
  | v :: us, u, h => by
    simp only [updM, Nat.testBit_or, Bool.or_eq_true]
    rcases List.mem_cons.1 h with rfl | h
    · exact .inl (by simp)
    · exact .inr (updM_v h)

-- regions

inductive TG where
  | p (x : XOp) (e : ET)
  | g (t : Nat) (want : Bool) (d : Option Nat) (x : XOp) (e : ET)
def TG.x : TG → XG
  | .p x _ => .p x
  | .g t w d x _ => .g t w d x
/-- A known test. -/
def TSt.ref (ts : TSt) (t : Nat) (b : Bool) : TSt := (t, ⟨.bool b, (ts.get t).ver, (ts.get t).hv⟩) :: ts
theorem ref_enc {ts : TSt} {t : Nat} {b : Bool} (h : (ts.get t).v = .bool b) : (ts.ref t b).enc = ts.enc := by
  funext i
  simp only [TSt.enc, TSt.ref, get_cons]
  by_cases hi : i = t
  · subst hi; rw [if_pos rfl, h]
  · rw [if_neg hi]
def skipU : Option Nat → List SUpd
  | some d => [⟨d, .pu, .lit undef⟩]
  | none => []

section
variable {R : Type} {r0 : R} {P : Program} {N : Nat}

def evG (H : List TFn) (g : TG) (ts : TSt) (k : TSt → List SUpd → Option R) : Option R :=
  match g with
  | .p x e => stepC H x e ts fun us => k ts us
  | .g t want d x e => match (ts.get t).v with
    | .bool b => bif b
        then (bif want then stepC H x e (ts.ref t true) fun us => k (ts.ref t true) us else k (ts.ref t true) (skipU d))
        else (bif want then k (ts.ref t false) (skipU d) else stepC H x e (ts.ref t false) fun us => k (ts.ref t false) us)
    | .lit (.bool _) => none
    | .lit _ => k ts (skipU d)
    | _ => none
def skipSt (st : St) (d : Option Nat) : St := match d with
  | some d => st.put d (.lit undef)
  | none => st
theorem skip_eq (st : St) (d : Option Nat) : skipSt st d = st.upds ((skipU d).map SUpd.enc) := by cases d <;> rfl
theorem guardX_b {t : Nat} {want b : Bool} {d : Option Nat} {x : XOp} {st : St} {K : St → Prop} (h : (st t).v = .lit (.bool b)) : guardX P t want d x st K = ((b = want → stepX P x st K) ∧ (b ≠ want → K (skipSt st d))) := by
  simp only [guardX, h]; rfl
theorem guardX_n {t : Nat} {want : Bool} {d : Option Nat} {x : XOp} {st : St} {K : St → Prop} {v : Value} (h : (st t).v = .lit v) (hv : ∀ b, v ≠ .bool b) : guardX P t want d x st K = K (skipSt st d) := by
  simp only [guardX, h]
  cases v <;> first | rfl | exact absurd rfl (hv _)
theorem stepX_mono {x : XOp} {st : St} {K K' : St → Prop} (h : stepX P x st K) (hk : ∀ s, K s → K' s) : stepX P x st K' := by
  cases x with
  | callB d f ys => obtain ⟨h1, v, h2, h3, h4⟩ := h; exact ⟨h1, v, h2, h3, hk _ h4⟩
  | callS d f ys => obtain ⟨h1, h2, v, h3, h4⟩ := h; exact ⟨h1, h2, v, h3, hk _ h4⟩
  | callF d x ys => obtain ⟨g, cs, h0, h1, h2, h3, h4, v, h5, h6⟩ := h; exact ⟨g, cs, h0, h1, h2, h3, h4, v, h5, hk _ h6⟩
  | callM d f l1 k l2 =>
    have tm : ∀ q, callMT P d f l1 q l2 st K → callMT P d f l1 q l2 st K' := by
      intro q h
      obtain ⟨g1, g2, g3, g4, R, g5, g6⟩ := h
      exact ⟨g1, g2, g3, g4, R, g5, fun res outs hr => by
        obtain ⟨k1, k2⟩ := g6 res outs hr
        exact ⟨k1, k2.imp (hk _) (fun ⟨ov, k3, k4, k5, k6⟩ => ⟨ov, k3, k4, k5, hk _ k6⟩)⟩⟩
    have tms : ∀ q, callMTS P d f (l1.map (·.1)) q (l2.map (·.1)) st K → callMTS P d f (l1.map (·.1)) q (l2.map (·.1)) st K' := by
      intro q h
      obtain ⟨g1, g2, g3, g4, R, g5, g6⟩ := h
      exact ⟨g1, g2, g3, g4, R, g5, fun res outs hr => (g6 res outs hr).imp (hk _) (fun ⟨ov, k3, k5, k6⟩ => ⟨ov, k3, k5, hk _ k6⟩)⟩
    cases k with
    | tmp q => exact tm q h
    | ptr y q => exact ⟨h.1, tm q h.2⟩
    | tmpS q => exact tms q h
    | tmp2 q q2 =>
      obtain ⟨g1, g2, g3, g4, g5, R, g6, g7⟩ := h
      exact ⟨g1, g2, g3, g4, g5, R, g6, fun res outs hr => (g7 res outs hr).imp id fun k => k.imp (hk _) fun ⟨ov, k3, k4, k5, k6⟩ => ⟨ov, k3, k4, k5, hk _ k6⟩⟩
    | ptrS y q => exact ⟨h.1, tms q h.2⟩
    | agg y r =>
      obtain ⟨g1, n, g, p, cs, vs, as, g2, gg, gl, g3, g4, g5, g6, g7, g8, R, g9, g10⟩ := h
      exact ⟨g1, n, g, p, cs, vs, as, g2, gg, gl, g3, g4, g5, g6, g7, g8, R, g9, fun res outs hr => by
        obtain ⟨k1, os, k2, k3, k4, k5⟩ := g10 res outs hr
        exact ⟨k1, os, k2, k3, k4, hk _ k5⟩⟩
    | aggS y r z =>
      obtain ⟨g1, q1, q2, ss, bs, q3, q4, n, g, p, cs, vs, as, g2, gg, gl, g3, g4, g5, g6, g7, g8, R, g9, g10⟩ := h
      exact ⟨g1, q1, q2, ss, bs, q3, q4, n, g, p, cs, vs, as, g2, gg, gl, g3, g4, g5, g6, g7, g8, R, g9, fun res outs hr => by
        obtain ⟨k1, os, k2, k3, k4, k5⟩ := g10 res outs hr
        exact ⟨k1, os, k2, k3, k4, hk _ k5⟩⟩
  | nilq d neg x =>
    simp only [stepX, nilX] at h ⊢
    split at h
    · exact ⟨hk _ h.1, fun e => hk _ (h.2 e)⟩
    · exact h.elim
  | _ =>
    simp only [stepX] at h ⊢
    unfold onU at h ⊢
    split at h
    · exact hk _ h
    · exact h.elim
def TG.xs : TG → XOp
  | .p x _ => x
  | .g _ _ _ x _ => x
def TG.gm : TG → Nat
  | .p _ _ => 0
  | .g t _ _ _ _ => 2 ^ t
def isNq : XOp → Bool
  | .nilq _ _ _ => true
  | _ => false
/-- One operation, wherever what it looks at is the same. -/
theorem evG_c {H : List TFn} {g : TG} {ts : TSt} {k : TSt → List SUpd → Option R} (hH : ∀ F ∈ H, FnOk P F) (h : evG H g ts k = some r0) :
    ∃ ts' us, ts'.enc = ts.enc ∧ k ts' us = some r0 ∧ xg P g.x ts.enc (fun st' => st' = ts.enc.upds (us.map SUpd.enc)) ∧
      (isNq g.xs = false → ∀ m : Nat, (∀ t, (xosM ts g.xs.ns ||| (g.gm ||| updM us)).testBit t = true → m.testBit t = true) → ∀ st2 : St, (∀ t, m.testBit t = true → st2 t = ts.enc t) → xg P g.x st2 (fun st' => st' = st2.upds (us.map SUpd.enc))) := by
  have far : ∀ {x : XOp} {e : ET} {ts1 : TSt} {K : List SUpd → Option R}, ts1.enc = ts.enc → stepC H x e ts1 K = some r0 → ∃ us, K us = some r0 ∧ stepX P x ts.enc (fun st' => st' = ts.enc.upds (us.map SUpd.enc)) ∧
      (isNq x = false → ∀ m : Nat, (∀ t, (xosM ts x.ns).testBit t = true → m.testBit t = true) → ∀ st2 : St, (∀ t, m.testBit t = true → st2 t = ts.enc t) → stepX P x st2 (fun st' => st' = st2.upds (us.map SUpd.enc))) := by
    intro x e ts1 K he hK
    obtain ⟨us, h1, h2, h3⟩ := stepC_v hH hK
    rw [enc_upds, he] at h1
    rw [he] at h2
    refine ⟨us, h3, h1, fun hq m hm st2 hs => ?_⟩
    exact stepX_far (F := fun t => m.testBit t = true) hs x (xosM_v hm) (fun d neg y e => by subst e; simp [isNq] at hq) h2 h1
  unfold evG at h
  split at h
  · rename_i x e
    obtain ⟨us, h1, h2, h3⟩ := far rfl h
    exact ⟨ts, us, rfl, h1, h2, fun hq m hm st2 hs => h3 hq m (fun t ht => hm t (by simp only [TG.xs, Nat.testBit_or, ht, Bool.true_or])) st2 hs⟩
  · rename_i t want d x e
    have hgm : ∀ {us : List SUpd} {m : Nat}, (∀ t', (xosM ts (TG.g t want d x e).xs.ns ||| ((TG.g t want d x e).gm ||| updM us)).testBit t' = true → m.testBit t' = true) → m.testBit t = true := fun hm => hm t (by
      simp only [TG.gm, Nat.testBit_or, Nat.testBit_two_pow_self, Bool.true_or, Bool.or_true])
    have hxm : ∀ {us : List SUpd} {m : Nat}, (∀ t', (xosM ts (TG.g t want d x e).xs.ns ||| ((TG.g t want d x e).gm ||| updM us)).testBit t' = true → m.testBit t' = true) → ∀ t', (xosM ts x.ns).testBit t' = true → m.testBit t' = true := fun hm t' ht => hm t' (by simp only [TG.xs, Nat.testBit_or, ht, Bool.true_or])
    split at h <;> try (cases h; done)
    · rename_i b hb
      have hbe : (ts.enc t).v = .lit (.bool b) := by rw [enc_v, hb]; rfl
      have hop : ∀ {K : List SUpd → Option R}, b = want → stepC H x e (ts.ref t b) K = some r0 → ∃ us, K us = some r0 ∧ xg P (.g t want d x) ts.enc (fun st' => st' = ts.enc.upds (us.map SUpd.enc)) ∧
          (isNq x = false → ∀ m : Nat, (∀ t', (xosM ts (TG.g t want d x e).xs.ns ||| ((TG.g t want d x e).gm ||| updM us)).testBit t' = true → m.testBit t' = true) → ∀ st2 : St, (∀ t, m.testBit t = true → st2 t = ts.enc t) → xg P (.g t want d x) st2 (fun st' => st' = st2.upds (us.map SUpd.enc))) := fun hw hK => by
        obtain ⟨us, h1, h2, h3⟩ := far (ref_enc hb) hK
        refine ⟨us, h1, ?_, fun hq m hm st2 hs => ?_⟩
        · simp only [xg, guardX_b hbe]
          exact ⟨fun _ => h2, fun hn => absurd hw hn⟩
        · simp only [xg]
          rw [guardX_b (b := b) (by rw [hs t (hgm hm)]; exact hbe)]
          exact ⟨fun _ => h3 hq m (hxm hm) st2 hs, fun hn => absurd hw hn⟩
      have hsk : b ≠ want → xg P (.g t want d x) ts.enc (fun st' => st' = ts.enc.upds ((skipU d).map SUpd.enc)) ∧
          (isNq x = false → ∀ m : Nat, (∀ t', (xosM ts (TG.g t want d x e).xs.ns ||| ((TG.g t want d x e).gm ||| updM (skipU d))).testBit t' = true → m.testBit t' = true) → ∀ st2 : St, (∀ t, m.testBit t = true → st2 t = ts.enc t) → xg P (.g t want d x) st2 (fun st' => st' = st2.upds ((skipU d).map SUpd.enc))) := fun hw => by
        refine ⟨?_, fun _ m hm st2 hs => ?_⟩
        · simp only [xg, guardX_b hbe]
          exact ⟨fun e => absurd e hw, fun _ => skip_eq _ d⟩
        · simp only [xg]
          rw [guardX_b (b := b) (by rw [hs t (hgm hm)]; exact hbe)]
          exact ⟨fun e => absurd e hw, fun _ => skip_eq _ d⟩
      cases b with
      | true =>
        simp only [cond_true] at h
        cases want with
        | true =>
          obtain ⟨us, h1, h2, h3⟩ := hop rfl h
          exact ⟨_, us, ref_enc hb, h1, h2, h3⟩
        | false => exact ⟨_, _, ref_enc hb, h, (hsk (by simp)).1, (hsk (by simp)).2⟩
      | false =>
        simp only [cond_false] at h
        cases want with
        | true => exact ⟨_, _, ref_enc hb, h, (hsk (by simp)).1, (hsk (by simp)).2⟩
        | false =>
          obtain ⟨us, h1, h2, h3⟩ := hop rfl h
          exact ⟨_, us, ref_enc hb, h1, h2, h3⟩
    · rename_i v hnb hv
      have hne : ∀ b, v ≠ .bool b := fun b e => hnb b e
      have hbe : (ts.enc t).v = .lit v := by rw [enc_v, hv]; rfl
      refine ⟨ts, _, rfl, h, ?_, fun _ m hm st2 hs => ?_⟩
      · show guardX P t want d x ts.enc _
        rw [guardX_n hbe hne]
        exact skip_eq _ d
      · show guardX P t want d x st2 _
        rw [guardX_n (v := v) (by rw [hs t (hgm hm)]; exact hbe) hne]
        exact skip_eq _ d

def evR (H : List TFn) : List TG → TSt → (TSt → Option R) → Option R
  | [], ts, k => k ts
  | g :: l, ts, k => evG H g ts fun ts' us => evR H l (ts'.upds us) k

theorem evR_v {H : List TFn} (hH : ∀ F ∈ H, FnOk P F) : ∀ {l : List TG} {ts : TSt} {k : TSt → Option R}, evR H l ts k = some r0 →
    ∃ (tsn : TSt) (uss : List (List Upd)), uss.length = l.length ∧ tsn.enc = ts.enc.upds uss.flatten ∧ k tsn = some r0 ∧ ∀ (j : Nat) (g : TG) (us : List Upd), l[j]? = some g → uss[j]? = some us → xg P g.x (ts.enc.upds (uss.take j).flatten) (fun st' => st' = (ts.enc.upds (uss.take j).flatten).upds us)
  | [], ts, k, h => ⟨ts, [], rfl, rfl, h, fun j g us hg => by simp at hg⟩
  | g :: l, ts, k, h => by
    obtain ⟨ts', us, h1, h3, h2, _⟩ := evG_c hH h
    obtain ⟨tsn, uss, h4, h5, h6, h7⟩ := evR_v hH h3
    rw [enc_upds, h1] at h5 h7
    refine ⟨tsn, us.map SUpd.enc :: uss, by simp [h4], by rw [h5, List.flatten_cons, upds_append], h6, fun j g' us' hg hu => ?_⟩
    cases j with
    | zero =>
      simp at hg hu
      subst hg hu
      simpa [St.upds] using h2
    | succ j =>
      have := h7 j g' us' (by simpa using hg) (by simpa using hu)
      simpa only [List.take_succ_cons, List.flatten_cons, upds_append] using this

/-- Of an operation: a mask of what it looks at, and of what it turns; where it began, what it turned. -/
structure DR where
  f : Nat
  w : Nat
  ts : TSt
  us : List SUpd
  g : TG
def DR.fw (r : DR) : Nat × Nat := (r.f, r.w)
def DR.ww (r : DR) : Nat × Nat := (r.w, r.w)
/-- The same, and of each operation what is to be told. -/
def evD (H : List TFn) : List TG → TSt → (TSt → List DR → Option R) → Option R
  | [], ts, k => k ts []
  | g :: l, ts, k => evG H g ts fun ts' us => evD H l (ts'.upds us) fun tsn fs => bif isNq g.xs then none else k tsn (⟨xosM ts g.xs.ns ||| (g.gm ||| updM us), updM us, ts, us, g⟩ :: fs)

theorem evD_v {H : List TFn} (hH : ∀ F ∈ H, FnOk P F) : ∀ {l : List TG} {ts : TSt} {k : TSt → List DR → Option R}, evD H l ts k = some r0 →
    ∃ (tsn : TSt) (uss : List (List Upd)) (fs : List DR), uss.length = l.length ∧ fs.length = l.length ∧ tsn.enc = ts.enc.upds uss.flatten ∧ k tsn fs = some r0 ∧
      ∀ (j : Nat) (g : TG) (us : List Upd) (f : DR), l[j]? = some g → uss[j]? = some us → fs[j]? = some f →
        ((∀ st2 : St, (∀ t, f.f.testBit t = true → st2 t = (ts.enc.upds (uss.take j).flatten) t) → xg P g.x st2 (fun st' => st' = st2.upds us)) ∧ ∀ u ∈ us, f.f.testBit u.t = true ∧ f.w.testBit u.t = true) ∧
          f.ts.enc = ts.enc.upds (uss.take j).flatten ∧ f.us.map SUpd.enc = us ∧ f.g = g ∧ isNq g.xs = false
  | [], ts, k, h => ⟨ts, [], [], rfl, rfl, rfl, h, fun j g us f hg => by simp at hg⟩
  | g :: l, ts, k, h => by
    simp only [evD] at h
    obtain ⟨ts', us, h1, h3, _, h2⟩ := evG_c hH h
    obtain ⟨tsn, uss, fs, h4, h4', h5, h6, h7⟩ := evD_v hH h3
    rw [enc_upds, h1] at h5 h7
    rw [cond_if] at h6
    split at h6 <;> try (cases h6; done)
    rename_i hq
    refine ⟨tsn, us.map SUpd.enc :: uss, _ :: fs, by simp [h4], by simp [h4'], by rw [h5, List.flatten_cons, upds_append], h6, fun j g' us' f hg hu hf => ?_⟩
    cases j with
    | zero =>
      simp at hg hu hf
      subst hg hu hf
      refine ⟨⟨fun st2 hs => h2 (by simpa using hq) _ (fun t ht => ht) st2 (fun t ht => by simpa [St.upds] using hs t ht), fun u hu => ?_⟩, by simp [St.upds], rfl, rfl, by simpa using hq⟩
      obtain ⟨u', hu', rfl⟩ := List.mem_map.1 hu
      have := updM_v hu'
      exact ⟨by simp only [Nat.testBit_or, SUpd.enc, this, Bool.or_true], this⟩
    | succ j =>
      obtain ⟨⟨h8, h9⟩, g1, g2, g3, g4⟩ := h7 j g' us' f (by simpa using hg) (by simpa using hu) (by simpa using hf)
      exact ⟨⟨by simpa only [List.take_succ_cons, List.flatten_cons, upds_append] using h8, h9⟩, by simpa only [List.take_succ_cons, List.flatten_cons, upds_append] using g1, g2, g3, g4⟩

-- code

def ancs : List (List Nat) → List Nat → List Nat
  | [], acc => acc
  | es :: l, acc => ancs l (acc ++ [es.foldl (fun m e => m ||| (2 ^ e ||| acc.getD e 0)) 0])
def edgesLt : Nat → List (List Nat) → Bool
  | _, [] => true
  | i, es :: l => es.all (fun e => Nat.blt e i) && edgesLt (i + 1) l
def pairOk (am : Nat) (fj wj : Nat) : Nat → List (Nat × Nat) → Bool
  | _, [] => true
  | i, (fi, wi) :: l => (Nat.testBit am i || (Nat.beq (wi &&& fj) 0 && Nat.beq (wj &&& fi) 0)) && pairOk am fj wj (i + 1) l
def pairsOk : List Nat → List (Nat × Nat) → List (Nat × Nat) → Bool
  | am :: as, done, (f, w) :: l => pairOk am f w 0 done && pairsOk as (done ++ [(f, w)]) l
  | [], _, [] => true
  | _, _, _ => false
def ordOk (es : List (List Nat)) (fs : List (Nat × Nat)) : Bool := edgesLt 0 es && pairsOk (ancs es []) [] fs
/-- The same updates, as far as can be told. -/
def sameV (a b : SV) (k : Option R) : Option R :=
  match a, b with
  | .al x, .al y => bif (x.ptr == y.ptr) && (Nat.beq x.root y.root && (Nat.beq x.ver y.ver && Nat.beq x.hv y.hv)) then if x.path = y.path then k else none else none
  | .int kk n, .int kk' n' => if kk = kk' then if n = n' then k else none else none
  | .bool c, .bool c' => if c = c' then k else none
  | .hole, .hole => k
  | _, _ => none
theorem sameV_v {a b : SV} {k : Option R} (h : sameV a b k = some r0) : a = b ∧ k = some r0 := by
  unfold sameV at h
  split at h
  · rename_i x y
    rw [cond_if] at h
    split at h <;> try (cases h; done)
    rename_i hc
    simp only [Bool.and_eq_true, beq_iff_eq] at hc
    obtain ⟨c1, d2, d3, d4⟩ := hc
    split at h <;> try (cases h; done)
    rename_i c5
    obtain ⟨x1, x2, x3, x4, x5⟩ := x
    obtain ⟨y1, y2, y3, y4, y5⟩ := y
    obtain rfl : x1 = y1 := c1
    obtain rfl : x2 = y2 := Nat.eq_of_beq_eq_true d2
    obtain rfl : x3 = y3 := c5
    obtain rfl : x4 = y4 := Nat.eq_of_beq_eq_true d3
    obtain rfl : x5 = y5 := Nat.eq_of_beq_eq_true d4
    exact ⟨rfl, h⟩
  · split at h <;> try (cases h; done)
    rename_i hk
    split at h <;> try (cases h; done)
    rename_i hn
    subst hk hn
    exact ⟨rfl, h⟩
  · split at h <;> try (cases h; done)
    rename_i hk
    subst hk
    exact ⟨rfl, h⟩
  · exact ⟨rfl, h⟩
  · cases h
def UK.beq : UK → UK → Bool
  | .pu, .pu | .mo, .mo | .qu, .qu => true
  | _, _ => false
theorem UK.beq_v {a b : UK} (h : UK.beq a b = true) : a = b := by cases a <;> cases b <;> simp [UK.beq] at h <;> rfl
def sameU : List SUpd → List SUpd → Option R → Option R
  | [], [], k => k
  | a :: l, b :: l', k => bif Nat.beq a.t b.t && UK.beq a.put b.put then sameV a.v b.v (sameU l l' k) else none
  | _, _, _ => none
theorem sameU_v : ∀ {l l' : List SUpd} {k : Option R}, sameU l l' k = some r0 → l = l' ∧ k = some r0
  | [], [], _, h => ⟨rfl, h⟩
  | a :: l, b :: l', k, h => by
    simp only [sameU] at h
    rw [cond_if] at h
    split at h <;> try (cases h; done)
    rename_i hc
    simp only [Bool.and_eq_true] at hc
    have c1 := Nat.eq_of_beq_eq_true hc.1
    have c2 := UK.beq_v hc.2
    obtain ⟨c3, h2⟩ := sameV_v h
    obtain ⟨c4, h3⟩ := sameU_v h2
    obtain ⟨a1, a2, a3⟩ := a
    obtain ⟨b1, b2, b3⟩ := b
    simp only at c1 c2 c3
    subst c1 c2 c3 c4
    exact ⟨rfl, h3⟩
  | [], _ :: _, _, h => by simp [sameU] at h
  | _ :: _, [], _, h => by simp [sameU] at h
/-- Those that an operation is not bound to, and that turn what it looks at. -/
def confL (as : List Nat) (i f : Nat) : Nat → List DR → List Nat
  | _, [] => []
  | j, r :: l => bif Nat.beq (r.w &&& f) 0 || (Nat.beq j i || (Nat.testBit (as.getD i 0) j || Nat.testBit (as.getD j 0) i)) then confL as i f (j + 1) l else j :: confL as i f (j + 1) l
theorem confL_v {as : List Nat} {i f t : Nat} : ∀ {l : List DR} {j m : Nat} {r : DR}, l[m]? = some r → r.w.testBit t = true → f.testBit t = true → j + m ≠ i → Nat.testBit (as.getD i 0) (j + m) = false → Nat.testBit (as.getD (j + m) 0) i = false → j + m ∈ confL as i f j l
  | [], _, _, _, h, _, _, _, _, _ => by simp at h
  | r0 :: l, j, 0, r, h, hw, hf, hji, h1, h2 => by
    simp at h; subst h
    rw [Nat.add_zero] at hji h1 h2 ⊢
    have hz : Nat.beq (r0.w &&& f) 0 = false := by
      cases hb : Nat.beq (r0.w &&& f) 0 with
      | false => rfl
      | true =>
        have := congrArg (fun n => n.testBit t) (Nat.eq_of_beq_eq_true hb)
        simp [Nat.testBit_and, hw, hf] at this
    have hb : Nat.beq j i = false := by rw [beq_dec, decide_eq_false hji]
    simp only [confL, hz, hb, h1, h2, Bool.or_false, cond_false, List.mem_cons, true_or]
  | r0 :: l, j, m + 1, r, h, hw, hf, hji, h1, h2 => by
    have ih := confL_v (as := as) (i := i) (f := f) (t := t) (l := l) (j := j + 1) (m := m) (r := r) (by simpa using h) hw hf (by omega) (by rw [show j + 1 + m = j + (m + 1) by omega]; exact h1) (by rw [show j + 1 + m = j + (m + 1) by omega]; exact h2)
    rw [show j + 1 + m = j + (m + 1) by omega] at ih
    simp only [confL]
    rw [cond_if]
    split
    · exact ih
    · exact List.mem_cons_of_mem _ ih
/-- Where an operation begins, if one that it is not bound to runs on its other side. -/
def altS (all : List DR) (i k : Nat) (r rk : DR) : TSt :=
  bif Nat.blt k i then ((all.drop (k + 1)).take (i - (k + 1))).foldl (fun t q => t.upds q.us) rk.ts else r.ts.upds rk.us
def exI (H : List TFn) (all : List DR) (i : Nat) (r : DR) (X : List Nat) (k : Option R) : Option R :=
  match X with
  | [] => k
  | [j] => match all[j]? with
    | some rj => evG H r.g (altS all i j r rj) fun _ us' => bif Nat.beq (xosM (altS all i j r rj) r.g.xs.ns ||| (r.g.gm ||| updM us')) r.f then sameU us' r.us k else none
    | none => none
  | _ => none
def exAll (H : List TFn) (as : List Nat) (all : List DR) : Nat → List DR → Option R → Option R
  | _, [], k => k
  | i, r :: l, k => exI H all i r (confL as i r.f 0 all) (exAll H as all (i + 1) l k)
def ordX (H : List TFn) (es : List (List Nat)) (fs : List DR) (k : Option R) : Option R :=
  bif edgesLt 0 es && pairsOk (ancs es []) [] (fs.map DR.ww) then exAll H (ancs es []) fs 0 fs k else none
/-- What is known of an operation: it meets no such one, or one, and then it does the same. -/
def ExOk (P : Program) (as : List Nat) (all : List DR) (i : Nat) (r : DR) : Prop :=
  confL as i r.f 0 all = [] ∨ ∃ j rj, confL as i r.f 0 all = [j] ∧ all[j]? = some rj ∧
    (isNq r.g.xs = false → ∀ st2 : St, (∀ t, r.f.testBit t = true → st2 t = (altS all i j r rj).enc t) → xg P r.g.x st2 (fun st' => st' = st2.upds (r.us.map SUpd.enc)))
theorem exI_v {H : List TFn} (hH : ∀ F ∈ H, FnOk P F) {as : List Nat} {all : List DR} {i : Nat} {r : DR} {k : Option R} (h : exI H all i r (confL as i r.f 0 all) k = some r0) : k = some r0 ∧ ExOk P as all i r := by
  unfold exI at h
  split at h
  · rename_i hX
    exact ⟨h, .inl hX⟩
  · rename_i j hX
    split at h <;> try (cases h; done)
    rename_i rj hj
    obtain ⟨ts', us', _, h1, _, h2⟩ := evG_c hH h
    rw [cond_if] at h1
    split at h1 <;> try (cases h1; done)
    rename_i hf
    have hf := Nat.eq_of_beq_eq_true hf
    obtain ⟨rfl, h3⟩ := sameU_v h1
    exact ⟨h3, .inr ⟨j, rj, hX, hj, fun hq st2 hs => h2 hq r.f (fun t ht => by rw [hf] at ht; exact ht) st2 hs⟩⟩
  · cases h
theorem exAll_v {H : List TFn} (hH : ∀ F ∈ H, FnOk P F) {as : List Nat} {all : List DR} : ∀ {l : List DR} {i : Nat} {k : Option R}, exAll H as all i l k = some r0 → k = some r0 ∧ ∀ (j : Nat) (r : DR), l[j]? = some r → ExOk P as all (i + j) r
  | [], _, _, h => ⟨h, fun j r h => by simp at h⟩
  | r0 :: l, i, k, h => by
    simp only [exAll] at h
    obtain ⟨h1, h2⟩ := exI_v hH h
    obtain ⟨h3, h4⟩ := exAll_v hH h1
    refine ⟨h3, fun j r hj => ?_⟩
    cases j with
    | zero => simp at hj; subst hj; exact h2
    | succ j =>
      have := h4 j r (by simpa using hj)
      rw [show i + (j + 1) = i + 1 + j by omega]; exact this

open Classical in
/-- Where it may be so or so: what both come to. -/
noncomputable def both (c : Bool) (a b : Option R) : Option R := bif c then (if a = b then a else none) else a
theorem both_v {c : Bool} {a b : Option R} (h : both c a b = some r0) : a = some r0 ∧ (c = true → b = some r0) := by
  unfold both at h
  cases c with
  | false => exact ⟨h, fun e => by cases e⟩
  | true =>
    simp only [cond_true] at h
    split at h <;> try (cases h; done)
    rename_i e
    exact ⟨h, fun _ => e ▸ h⟩
theorem both_same {c : Bool} {a : Option R} : both c a a = a := by
  unfold both
  cases c
  · rfl
  · simp
def nilable : SV → Bool
  | .sl _ _ l => l.isEmpty
  | .nil _ _ => true
  | _ => false

inductive TC where
  | skip
  | nq (l : List TG) (d : Nat) (neg : Bool) (y : XO)
  | reg (es : Option (List (List Nat))) (l : List TG)
  | seq (a b : TC)
  | cond (c : XO) (a b : TC)
  | block (id : Nat) (b : TC)
  | loop (s : Shs) (b : TC)
  | exit (id : Nat)
  | ret
  | join (s : Shs) (b : TC)
  | jl (id : Nat) (s o : Shs) (b : TC)
def TC.x : TC → XD
  | .skip => .skip
  | .nq l d neg y => .reg none (l.map TG.x ++ [.p (.nilq d neg y)])
  | .reg es l => .reg es (l.map TG.x)
  | .seq a b => .seq a.x b.x
  | .cond c a b => .cond c a.x b.x
  | .block id b => .block id b.x
  | .loop _ b => .loop b.x
  | .exit id => .exit id
  | .ret => .ret
  | .join _ b => b.x
  | .jl id _ _ b => .block id (.loop b.x)

/-- Rounds. -/
def rounds {σ : Type} (step : (σ → Option R) → σ → Option R) : Nat → σ → Option R
  | 0, _ => none
  | n + 1, x => step (rounds step n) x
def fuel : Nat := 18446744073709551616
def TSt.refX (ts : TSt) (c : XO) (b : Bool) : TSt :=
  match c with
  | .t n => ts.ref n b
  | _ => ts

/-- fin: what a function's end gives; kr: what becomes of it. -/
noncomputable def evC (H : List TFn) {R0 : Type} (fin : TSt → Option R0) : TC → (R : Type) → (R0 → Option R) → TSt → (Exit → TSt → Option R) → Option R
  | .skip, _, _, ts, K => K .normal ts
  | .nq l d neg y, _, _, ts, K => evR H l ts fun ts' => ts'.svK y fun s => both (nilable s) (K .normal (ts'.put d (.bool neg))) (K .normal (ts'.put d (.bool !neg)))
  | .reg es l, _, _, ts, K => match es with
    | none => evR H l ts (K .normal)
    | some es => evD H l ts fun ts' fs => bif ordOk es (fs.map DR.fw) then K .normal ts' else ordX H es fs (K .normal ts')
  | .seq a b, R, kr, ts, K => evC H fin a R kr ts fun e ts' => match e with
    | .normal => evC H fin b R kr ts' K
    | e => K e ts'
  | .cond c a b, R, kr, ts, K => match ts.val c with
    | .bool t => bif t then evC H fin a R kr (ts.refX c true) K else evC H fin b R kr (ts.refX c false) K
    | _ => none
  | .block id b, R, kr, ts, K => evC H fin b R kr ts fun e ts' => match e with
    | .exit j => bif Nat.beq j id then K .normal ts' else K (.exit j) ts'
    | e => K e ts'
  | .loop s b, R, kr, ts, K => match s.dec ts with
    | some x => rounds (fun rec x => evC H fin b R kr (s.enc x) fun e ts' => match e with
        | .normal => match s.dec ts' with
          | some x' => rec x'
          | none => none
        | e => K e ts') fuel x
    | none => none
  | .exit id, _, _, ts, K => K (.exit id) ts
  | .ret, _, _, ts, K => K .ret ts
  | .join s b, R, kr, ts, K => (evC H fin b (Den s.sh ⊕ R) (fun r => (kr r).map .inr) ts fun e ts' => match e with
      | .normal => match s.dec ts' with
        | some x => some (.inl x)
        | none => none
      | e => (K e ts').map .inr).bind (Sum.elim (fun x => K .normal (s.enc x)) some)
  | .jl id s o b, R, kr, ts, K => match s.dec ts with
    | some x => (rounds (fun rec x => evC H fin b (Den o.sh ⊕ R0) (fun r => some (.inr r)) (s.enc x) fun e ts' => match e with
        | .normal => match s.dec ts' with
          | some x' => rec x'
          | none => none
        | .exit j => bif Nat.beq j id then (match o.dec ts' with
            | some y => some (.inl y)
            | none => none) else none
        | .ret => (fin ts').map .inr
        | _ => none) fuel x).bind (Sum.elim (fun y => K .normal (o.enc y)) kr)
    | none => none
/-- A loop by itself. -/
noncomputable def evL (H : List TFn) {R0 : Type} (fin : TSt → Option R0) (id : Nat) (s o : Shs) (b : TC) : Nat → Den s.sh → Option (Den o.sh ⊕ R0) :=
  rounds (fun rec x => evC H fin b (Den o.sh ⊕ R0) (fun r => some (.inr r)) (s.enc x) fun e ts' => match e with
        | .normal => match s.dec ts' with
          | some x' => rec x'
          | none => none
        | .exit j => bif Nat.beq j id then (match o.dec ts' with
            | some y => some (.inl y)
            | none => none) else none
        | .ret => (fin ts').map .inr
        | _ => none)
end
end Go.Proofs.YtainknkfjekngaaDoor.Vm
