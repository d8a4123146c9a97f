/- Functions over typed values. -/
import Derived.Test.YtainknkfjekngaaDoorT6
namespace Go.Proofs.YtainknkfjekngaaDoor.Vm
open Go
set_option linter.unusedVariables false
set_option linter.unusedSimpArgs false

/-- A function's text, as it is read. -/
def mH (P : Program) (f : Nat) (an : Ann) : Option (XD × Nat × Nat × List XR) :=
  match P.funcs[f]? with
  | some fn => match fn.body with
    | some c => match mD P fn.ntmps an c, mRes P (fn.params.size + fn.nfree) fn.ntmps fn.results.toList with
      | some x, some rs => if (rs.map XR.tmp).Nodup ∧ fn.params.size + fn.nfree ≤ fn.ntmps ∧ fn.name ≠ "runtime.NumGoroutine" then some (x, fn.ntmps, fn.params.size + fn.nfree, rs) else none
      | _, _ => none
    | none => none
  | none => none

def TSt.ress (ts : TSt) : List XR → Option (List SV)
  | [] => some []
  | .t n :: l => match TSt.ress ts l with
    | some vs => some ((ts.get n).v :: vs)
    | none => none
  | .c t n g :: l => match TSt.ress ts l with
    | some vs => match (ts.get t).v with
      | .box cs => bif Nat.beq cs.length n then some (mkS g cs :: vs) else none
      | _ => none
    | none => none
theorem ress_v {ts : TSt} : ∀ {l : List XR} {vs : List SV}, ts.ress l = some vs → resV ts.enc l = some (vl vs) ∧ vs.length = l.length
  | [], vs, h => by simp only [TSt.ress] at h; cases h; exact ⟨rfl, rfl⟩
  | .t n :: l, vs, h => by
    simp only [TSt.ress] at h
    split at h <;> cases h
    rename_i vs' h1
    obtain ⟨h2, h3⟩ := ress_v h1
    exact ⟨by simp only [resV, h2]; rfl, by simp [h3]⟩
  | .c t n g :: l, vs, h => by
    simp only [TSt.ress] at h
    split at h <;> try (cases h; done)
    rename_i vs' h1
    obtain ⟨h2, h3⟩ := ress_v h1
    split at h <;> try (cases h; done)
    rename_i cs hcs
    rw [cond_if] at h
    split at h <;> cases h
    rename_i hn
    refine ⟨?_, by simp [h3]⟩
    simp only [resV, enc_v, hcs, SV.v]
    rw [if_pos (by rw [show SV.v.go cs = vl cs from rfl, vl_len]; exact Nat.eq_of_beq_eq_true hn), h2, ← mkS_v]; rfl
def TSt.outv (ts : TSt) : List Nat → List SV
  | [] => []
  | i :: is => (bif Nat.beq (ts.get i).ver 0 then (ts.get i).v else .hole) :: TSt.outv ts is
theorem outv_len (ts : TSt) : ∀ is : List Nat, (ts.outv is).length = is.length
  | [] => rfl
  | i :: is => by simp [TSt.outv, outv_len ts is]
theorem outv_at (ts : TSt) : ∀ (is : List Nat) (j i : Nat) (v : V), is[j]? = some i → (vl (ts.outv is))[j]? = some v → v.na = true → v = ts.enc.out i
  | [], j, i, v, h, _, _ => by simp at h
  | i0 :: is, 0, i, v, h, hv, hn => by
    simp at h; subst h
    simp only [TSt.outv, SV.v.go, List.getElem?_cons_zero, Option.some.injEq] at hv
    subst hv
    by_cases h0 : (ts.get i0).ver = 0
    · have hb : Nat.beq (ts.get i0).ver 0 = true := by rw [h0]; rfl
      rw [hb] at hn ⊢
      simp only [cond_true] at hn ⊢
      exact (if_pos (c := (ts.enc i0).ver = 0 ∧ (ts.enc i0).v.na = true) ⟨h0, hn⟩).symm
    · have hb : Nat.beq (ts.get i0).ver 0 = false := by
        cases hb : Nat.beq (ts.get i0).ver 0 with
        | false => rfl
        | true => exact absurd (Nat.eq_of_beq_eq_true hb) h0
      rw [hb]
      exact (if_neg (c := (ts.enc i0).ver = 0 ∧ (ts.enc i0).v.na = true) (fun h => h0 h.1)).symm
  | i0 :: is, j + 1, i, v, h, hv, hn => outv_at ts is j i v (by simpa using h) (by simpa [TSt.outv, SV.v.go] using hv) hn

def initT (args : List Sh) (a : Den args) : TSt := mkT ((List.range args.length).map (·, true)) (svL args a)
theorem mkT_init : ∀ (vs : List SV) (k i : Nat), (mkT ((List.range' k vs.length).map (·, true)) vs).get i = if k ≤ i ∧ i < k + vs.length then ⟨vs.getD (i - k) .hole, 0, 0⟩ else ⟨.hole, 1, 0⟩
  | [], k, i => by simp [mkT, TSt.get]
  | v :: vs, k, i => by
    simp only [List.length_cons, List.range'_succ, List.map_cons, mkT, get_cons, cond_true]
    by_cases h : i = k
    · subst h; simp
    · rw [if_neg h, mkT_init vs (k + 1) i]
      by_cases h2 : k + 1 ≤ i ∧ i < k + 1 + vs.length
      · rw [if_pos h2, if_pos (by omega), show i - k = (i - (k + 1)) + 1 by omega]; rfl
      · rw [if_neg h2, if_neg (by omega)]

theorem allOk_nil {P : Program} : ∀ F ∈ ([] : List TFn), FnOk P F := fun _ h => by cases h
theorem allOk_cons {P : Program} {F : TFn} {l : List TFn} (h : FnOk P F) (hl : ∀ G ∈ l, FnOk P G) : ∀ G ∈ F :: l, FnOk P G := fun G hG => by
  rcases List.mem_cons.1 hG with rfl | hG
  · exact h
  · exact hl G hG

structure TF where
  code : TC
  N : Nat
  np : Nat
  res : List XR
/-- What names stand for is taken back. -/
def mergeS (d ver hv : Nat) : Nat → List SV → List SV → Option (List SV)
  | _, [], [] => some []
  | k, c :: cs, b :: bs => match mergeS d ver hv (k + 1) cs bs with
    | some l => match c with
      | .al y => match y.path with
        | [(i, j)] => bif !y.ptr && (Nat.beq y.root d && (Nat.beq i 0 && (Nat.beq j k && (Nat.beq y.ver ver && Nat.beq y.hv hv)))) then some (b :: l) else none
        | _ => none
      | c => bif c.cp then some (c :: l) else none
    | none => none
  | _, _, _ => none
theorem mergeS_v {d ver hv : Nat} : ∀ {cs : List SV} {k : Nat} {bs l : List SV}, mergeS d ver hv k cs bs = some l → mergeC d ver hv k (vl cs) (vl bs) = some (vl l)
  | [], k, [], l, h => by simp only [mergeS, Option.some.injEq] at h; subst h; rfl
  | c :: cs, k, b :: bs, l, h => by
    simp only [mergeS] at h
    split at h <;> try (cases h; done)
    rename_i l' hl
    have ih := mergeS_v hl
    simp only [SV.v.go, mergeC]
    rw [ih]
    split at h
    · rename_i y
      split at h <;> try (cases h; done)
      rename_i i j hp
      rw [cond_if] at h
      split at h <;> try (cases h; done)
      rename_i hb
      cases h
      simp only [Bool.and_eq_true, Bool.not_eq_true'] at hb
      obtain ⟨b1, b2, b3, b4, b5, b6⟩ := hb
      have : y = ⟨false, d, [(0, k)], ver, hv⟩ := by
        obtain ⟨yp, yr, ypa, yv, yh⟩ := y
        simp only at *
        rw [b1, Nat.eq_of_beq_eq_true b2, hp, Nat.eq_of_beq_eq_true b3, Nat.eq_of_beq_eq_true b4, Nat.eq_of_beq_eq_true b5, Nat.eq_of_beq_eq_true b6]
      simp only [SV.v]
      rw [if_pos this]; rfl
    · rename_i hna
      rw [cond_if] at h
      split at h <;> try (cases h; done)
      rename_i hc
      cases h
      have hcv : c.v.cp = true := by rw [SV.cp_v]; exact hc
      cases c <;> first
        | exact absurd rfl (hna _)
        | (simp only [SV.v] at hcv ⊢; rw [if_pos hcv]; rfl)
  | [], _, _ :: _, _, h => by simp [mergeS] at h
  | _ :: _, _, [], _, h => by simp [mergeS] at h
def firstAl : List SV → Option Nat
  | [] => none
  | .al y :: _ => some y.root
  | _ :: cs => firstAl cs
def TSt.retr1 (ts : TSt) (r : Nat) : TSt := match (ts.get r).v with
  | .agg cs => match firstAl cs with
    | some d => bif Nat.beq d r then ts else match (ts.get d).v with
      | .box bs => match mergeS d (ts.get d).ver (ts.get d).hv 0 cs bs with
        | some l => (r, ⟨.agg l, (ts.get r).ver, (ts.get r).hv⟩) :: (d, ⟨.hole, (ts.get d).ver + 1, (ts.get d).hv⟩) :: ts
        | none => ts
      | _ => ts
    | none => ts
  | _ => ts
def TSt.retr : List Nat → TSt → TSt
  | [], ts => ts
  | i :: is, ts => TSt.retr is (ts.retr1 i)
theorem retr1_v {P : Program} {B : Base P} {N : Nat} {ts : TSt} {a : Act} {w : World} {S : CS} {fp : Nat → CS} (r : Nat) (h : Rl B N ts.enc a w S fp) : ∃ fp', Rl B N (ts.retr1 r).enc a w S fp' := by
  unfold TSt.retr1
  split <;> try exact ⟨fp, h⟩
  rename_i cs hcs
  split <;> try exact ⟨fp, h⟩
  rename_i d hd
  rw [cond_if]
  split <;> try exact ⟨fp, h⟩
  rename_i hdr
  split <;> try exact ⟨fp, h⟩
  rename_i bs hbs
  split <;> try exact ⟨fp, h⟩
  rename_i l hl
  obtain ⟨fp', h'⟩ := h.retr (r := r) (d := d) (cs := vl cs) (bs := vl bs) (l := vl l) (beq_false hdr) (by rw [enc_v, hcs]; rfl) (by rw [enc_v, hbs]; rfl) (mergeS_v hl)
  refine ⟨fp', ?_⟩
  have e : (TSt.enc ((r, ⟨.agg l, (ts.get r).ver, (ts.get r).hv⟩) :: (d, ⟨.hole, (ts.get d).ver + 1, (ts.get d).hv⟩) :: ts)) = (fun i => if i = r then ⟨.agg (vl l), (ts.enc r).ver, (ts.enc r).hv⟩ else if i = d then ⟨.hole, (ts.enc d).ver + 1, (ts.enc d).hv⟩ else ts.enc i) := by
    funext i
    simp only [TSt.enc, get_cons]
    by_cases h1 : i = r
    · simp only [h1, if_true]; rfl
    · by_cases h2 : i = d
      · simp only [h2, if_true, if_neg (beq_false hdr)]; rfl
      · simp only [h1, h2, if_false]
  rw [e]; exact h'
theorem retr_v {P : Program} {B : Base P} {N : Nat} {a : Act} {w : World} {S : CS} : ∀ (is : List Nat) {ts : TSt} {fp : Nat → CS}, Rl B N ts.enc a w S fp → ∃ fp', Rl B N (TSt.retr is ts).enc a w S fp'
  | [], ts, fp, h => ⟨fp, h⟩
  | i :: is, ts, fp, h => by
    obtain ⟨fp', h'⟩ := retr1_v i h
    exact retr_v is h'
theorem VT.monoE {P : Program} {N : Nat} {c : Code} {st : St} {Q Q' : Exit → St → Prop} (h : VT P N c st Q)
    (hq : ∀ e st', Q e st' → ∃ st'', Q' e st'' ∧ ∀ (B : Base P) a w S fp, Rl B N st' a w S fp → ∃ fp', Rl B N st'' a w S fp') : VT P N c st Q' := by
  intro B a w S fp hr
  refine wp_mono (h B a w S fp hr) ?_
  rintro e a' w' ⟨st', S', fp', hQ, hr'⟩
  obtain ⟨st'', h1, h2⟩ := hq e st' hQ
  obtain ⟨fp2, h3⟩ := h2 _ _ _ _ _ hr'
  exact ⟨st'', S', fp2, h1, h3⟩
/-- A result that is a name of an own slice in a local struct is taken from there. -/
def TSt.clm1 (ts : TSt) (q : Nat) : TSt :=
  match ts.resH (.t q) with
  | some (r, i :: p) => bif Nat.beq r q then ts else
      match updK (R := TSt) 1 (fun _ => some [.hole]) (ts.get r).v (i :: p) (fun cs v' => match cs with
        | [c] => bif ownSl c then some ((ts.tk r v').put q c) else none
        | _ => none) with
      | some ts' => ts'
      | none => ts
  | _ => ts
def TSt.clms : List XR → TSt → TSt
  | [], ts => ts
  | .t q :: l, ts => TSt.clms l (ts.clm1 q)
  | .c _ _ _ :: l, ts => TSt.clms l ts
theorem clm1_v {P : Program} {B : Base P} {N : Nat} {ts : TSt} {a : Act} {w : World} {S : CS} {fp : Nat → CS} {q : Nat} (hq : q < N) (h : Rl B N ts.enc a w S fp) : ∃ fp', Rl B N (ts.clm1 q).enc a w S fp' := by
  unfold TSt.clm1
  split <;> try exact ⟨fp, h⟩
  rename_i r i p hr
  rw [cond_if]
  split <;> try exact ⟨fp, h⟩
  rename_i hrq
  split <;> try exact ⟨fp, h⟩
  rename_i ts' h6
  obtain ⟨cs, ys, v', h1, hdum, ⟨cs1, h2, h3⟩, h4, h5, h6⟩ := updK_v h6
  clear hdum
  split at h6 <;> try (cases h6; done)
  rename_i c
  rw [cond_if] at h6
  split at h6 <;> try (cases h6; done)
  rename_i hown
  cases h3
  cases h6
  obtain ⟨m, es, hc⟩ := ownSl_v hown
  have hclm : ts.enc.clm q = some (r, false, v'.v, c.v) := by
    have hr' := hr
    rw [← enc_resH] at hr'
    simp only [St.resH] at hr'
    unfold St.clm
    split at hr' <;> try (cases hr'; done)
    rename_i z hz
    split at hr' <;> try (cases hr'; done)
    rename_i hg
    simp only [Option.some.injEq, Prod.mk.injEq] at hr'
    obtain ⟨e1, e2⟩ := hr'
    rw [hz]
    simp only
    rw [if_pos hg, if_pos (by rw [e1]; exact beq_false hrq), e2]
    simp only [e1, enc_v]
    rw [h1]
    simp only [SV.v.go]
    rw [hc]
    simp only [← h5]
    rfl
  obtain ⟨fp', h'⟩ := h.claim hq hclm
  have : (ts.enc.umod r false v'.v).put q c.v = ((ts.tk r v').put q c).enc := by rw [enc_put, enc_tk]; rfl
  rw [this] at h'
  exact ⟨fp', h'⟩
theorem clms_v {P : Program} {B : Base P} {N : Nat} {a : Act} {w : World} {S : CS} : ∀ (rs : List XR) {ts : TSt} {fp : Nat → CS}, (∀ x ∈ rs, x.tmp < N) → Rl B N ts.enc a w S fp → ∃ fp', Rl B N (TSt.clms rs ts).enc a w S fp'
  | [], ts, fp, _, h => ⟨fp, h⟩
  | .t q :: l, ts, fp, hn, h => by
    obtain ⟨fp', h'⟩ := clm1_v (hn (.t q) (by simp)) h
    exact clms_v l (fun x hx => hn x (by simp [hx])) h'
  | .c _ _ _ :: l, ts, fp, hn, h => clms_v l (fun x hx => hn x (by simp [hx])) h
theorem mres_lt {P : Program} {np N : Nat} : ∀ {l : List ResultVar} {rs : List XR}, mRes P np N l = some rs → ∀ x ∈ rs, x.tmp < N
  | [], rs, h, x, hx => by simp only [mRes, Option.some.injEq] at h; subst h; simp at hx
  | .tmp t :: l, rs, h, x, hx => by
    simp only [mRes] at h
    split at h <;> try (cases h; done)
    rename_i hc
    obtain ⟨rs', h', rfl⟩ := Option.map_eq_some_iff.1 h
    rcases List.mem_cons.1 hx with rfl | hx
    · exact hc.2
    · exact mres_lt h' x hx
  | .cell t T :: l, rs, h, x, hx => by
    simp only [mRes] at h
    split at h <;> try (cases h; done)
    split at h <;> try (cases h; done)
    rename_i hc
    obtain ⟨rs', h', rfl⟩ := Option.map_eq_some_iff.1 h
    rcases List.mem_cons.1 hx with rfl | hx
    · exact hc.2
    · exact mres_lt h' x hx
def finT (rs : List XR) (outs : List Nat) (l : List Sh) (ts : TSt) : Option (Den l) :=
  match (TSt.retr outs (TSt.clms rs ts)).ress rs with
  | some vs => decL l (vs ++ (TSt.retr outs (TSt.clms rs ts)).outv outs)
  | none => none
noncomputable def evF (H : List TFn) (F : TF) (args : List Sh) (outs : List Nat) (res os : List Sh) (a : Den args) : Option (Den (res ++ os)) :=
  evC H (finT F.res outs (res ++ os)) F.code (Den (res ++ os)) some (initT args a) fun e ts => match e with
    | .normal => finT F.res outs (res ++ os) ts
    | .ret => finT F.res outs (res ++ os) ts
    | _ => none

theorem evF_ok {P : Program} {H : List TFn} {F : TF} {f : Nat} {an : Ann} {args : List Sh} {outs : List Nat} {res os : List Sh} (hm : P.follows .mixedOrders = true) (hH : ∀ F ∈ H, FnOk P F)
    (hf : mH P f an = some (F.code.x, F.N, F.np, F.res)) (hc : args.length = F.np ∧ F.res.length = res.length ∧ outs.all (· < F.np) = true) : FnOk P ⟨f, args, outs, res, os, evF H F args outs res os⟩ := by
  obtain ⟨hl, hrl, hol⟩ := hc
  unfold mH at hf
  split at hf <;> try (cases hf; done)
  rename_i fn hfn
  split at hf <;> try (cases hf; done)
  rename_i c hbody
  split at hf <;> try (cases hf; done)
  rename_i x rs hx hrs
  split at hf <;> try (cases hf; done)
  rename_i hnd
  simp only [Option.some.injEq, Prod.mk.injEq] at hf
  obtain ⟨rfl, hN, hnp, rfl⟩ := hf
  refine ⟨by simp only [entB, hfn, hbody]; simpa using hnd.2.2, fun a r hr => ?_⟩
  refine Ok.ofVT hfn hbody hrs ⟨hnd.1, hnd.2.1⟩ (by rw [vl_len, svL_len, hl, hnp]) ?_
  have hst : ∀ (B : Base P) a' w S fp, Rl B fn.ntmps (St.init (vl (svL args a))) a' w S fp → Rl B fn.ntmps (initT args a).enc a' w S fp := by
    intro B a' w S fp hr
    have hget := fun i => mkT_init (svL args a) 0 i
    rw [svL_len] at hget
    have hget' : ∀ i, (initT args a).get i = if i < args.length then ⟨(svL args a).getD i .hole, 0, 0⟩ else ⟨.hole, 1, 0⟩ := fun i => by
      have := hget i
      rw [← List.range_eq_range'] at this
      simp only [Nat.zero_le, true_and, Nat.zero_add, Nat.sub_zero] at this
      exact this
    refine hr.norm (fun i => ?_) (fun i hi => rfl)
    rw [enc_v, hget']
    by_cases h : i < args.length
    · rw [if_pos h]
      have e : (St.init (vl (svL args a)) i).v = ((svL args a).getD i .hole).v := by
        simp only [St.init, vl_map, List.getD_eq_getElem?_getD, List.getElem?_map]
        cases (svL args a)[i]? <;> rfl
      refine .inr ⟨e.symm, ?_⟩
      have hn := svL_na args a
      have : ∀ (l : List SV) (i : Nat), V.na.go (vl l) = true → (l.getD i .hole).v.na = true := by
        intro l
        induction l with
        | nil => intro i _; rfl
        | cons v l ih =>
          intro i hn
          simp only [SV.v.go, V.na.go, Bool.and_eq_true] at hn
          cases i with
          | zero => exact hn.1
          | succ i => exact ih i hn.2
      rw [e]; exact this _ i hn
    · rw [if_neg h]; exact .inl rfl
  refine VT.pre (st0 := (initT args a).enc) ?_ hst
  refine VT.monoE (evC_v hm hH F.code c _ some (initT args a) _ r (fun ts r q h1 h2 => by rw [h1]; exact h2) hx hr) (fun e st' hq => ?_)
  obtain ⟨ts0, rfl, hq⟩ := hq
  refine ⟨(TSt.retr outs (TSt.clms F.res ts0)).enc, ?_, fun _ _ _ _ _ h => by
    obtain ⟨fp', h'⟩ := clms_v F.res (mres_lt hrs) h
    exact retr_v outs h'⟩
  generalize hts : TSt.retr outs (TSt.clms F.res ts0) = ts
  have key : ∀ vs, ts.ress F.res = some vs → decL (res ++ os) (vs ++ ts.outv outs) = some r → ∃ ws, resV ts.enc F.res = some ws ∧ V.na.go ws = true ∧ (oneV ws = oneV ((vl (svL (res ++ os) r)).take res.length) ∧ Outs outs ((vl (svL (res ++ os) r)).drop res.length) (ts.enc.outs (fn.params.size + fn.nfree))) := by
    intro vs h1 h2
    obtain ⟨h3, h4⟩ := ress_v h1
    have h5 := decL_v h2
    have h6 := svL_na (res ++ os) r
    rw [h5, vl_app] at h6 ⊢
    have hlv : (vl vs).length = res.length := by rw [vl_len, h4, hrl]
    refine ⟨vl vs, h3, ?_, ?_, ?_⟩
    · rw [na_go_app] at h6; simp only [Bool.and_eq_true] at h6; exact h6.1
    · rw [← hlv, List.take_left]
    · rw [← hlv, List.drop_left]
      intro j i v hj hv
      rw [na_go_app] at h6; simp only [Bool.and_eq_true] at h6
      have hvn : v.na = true := by
        have : ∀ (l : List V) (j : Nat) (v : V), V.na.go l = true → l[j]? = some v → v.na = true := by
          intro l
          induction l with
          | nil => intro j v _ h; simp at h
          | cons w l ih =>
            intro j v hn h
            simp only [V.na.go, Bool.and_eq_true] at hn
            cases j with
            | zero => simp at h; subst h; exact hn.1
            | succ j => exact ih j v hn.2 (by simpa using h)
        exact this _ j v h6.2 hv
      have hi : i < fn.params.size + fn.nfree := by
        have := List.all_eq_true.1 hol i (List.mem_of_getElem? hj)
        rw [hnp]; simpa using this
      rw [outv_at ts outs j i v hj hv hvn]
      simp [St.outs, hi]
  cases e with
  | normal =>
    simp only [finT, hts] at hq
    split at hq <;> try (cases hq; done)
    obtain ⟨ws, h1, h2, h3⟩ := key _ (by assumption) hq
    exact ⟨.inl rfl, ws, h1, h2, h3⟩
  | ret =>
    simp only [finT, hts] at hq
    split at hq <;> try (cases hq; done)
    obtain ⟨ws, h1, h2, h3⟩ := key _ (by assumption) hq
    exact ⟨.inr rfl, ws, h1, h2, h3⟩
  | _ => cases hq
end Go.Proofs.YtainknkfjekngaaDoor.Vm
