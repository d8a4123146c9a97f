/- Shapes of what a frame's places hold, of what a function takes and gives; calls by contract. -/
import Derived.Test.YtainknkfjekngaaDoorT3
namespace Go.Proofs.YtainknkfjekngaaDoor.Vm
open Go
set_option linter.unusedVariables false
set_option linter.unusedSimpArgs false

inductive Sh where
  | cell (e : ET)
  | agg (e : ET)
  | box (e : ET)
  | rp (e : ET)
  | bld (T E : Nat)
  deriving DecidableEq
@[reducible] def Sh.den : Sh → Type
  | .cell e | .agg e | .box e | .rp e => e.den
  | .bld _ _ => List UInt8
def hd1 : List SV → SV
  | [c] => c
  | _ => .hole
def Sh.sv : (s : Sh) → s.den → SV
  | .cell e, x => hd1 (unp e x)
  | .agg e, x => .agg (unp e x)
  | .box e, x => .box (unp e x)
  | .rp e, x => .rp (unp e x)
  | .bld T E, x => .bld T E x
def Sh.dec : (s : Sh) → SV → Option s.den
  | .cell e, v => pk e [v]
  | .agg e, v => match v with
    | .agg cs => pk e cs
    | _ => none
  | .box e, v => match v with
    | .box cs => pk e cs
    | _ => none
  | .rp e, v => match v with
    | .rp cs => pk e cs
    | _ => none
  | .bld T E, v => match v with
    | .bld T' E' s => bif Nat.beq T T' && Nat.beq E E' then some s else none
    | _ => none
theorem unp_len (e : ET) (x : e.den) : (unp e x).length = e.wid := by
  have := congrArg List.length (unp_v e x)
  rw [vl_len, enc_len] at this; exact this
theorem Sh.dec_v : ∀ {s : Sh} {v : SV} {x : s.den}, s.dec v = some x → (s.sv x).v = v.v
  | .cell e, v, x, h => by
    have h1 := pk_v (show pk e [v] = some x from h)
    rw [← unp_v] at h1
    show (hd1 (unp e x)).v = v.v
    have hl : (unp e x).length = 1 := by
      have := congrArg List.length h1
      simp only [vl_len] at this; exact this.symm
    match hu : unp e x, hl with
    | [c], _ =>
      rw [hu] at h1
      simp only [SV.v.go, List.cons.injEq, and_true] at h1
      exact h1.symm
  | .agg e, v, x, h => by
    simp only [Sh.dec] at h
    split at h <;> try (cases h; done)
    show V.agg (vl (unp e x)) = _
    rw [unp_v, ← pk_v h]; rfl
  | .box e, v, x, h => by
    simp only [Sh.dec] at h
    split at h <;> try (cases h; done)
    show V.box (vl (unp e x)) = _
    rw [unp_v, ← pk_v h]; rfl
  | .rp e, v, x, h => by
    simp only [Sh.dec] at h
    split at h <;> try (cases h; done)
    show V.rp (vl (unp e x)) = _
    rw [unp_v, ← pk_v h]; rfl
  | .bld T E, v, x, h => by
    simp only [Sh.dec] at h
    split at h <;> try (cases h; done)
    rw [cond_if] at h
    split at h <;> try (cases h; done)
    rename_i hb
    simp only [Bool.and_eq_true] at hb
    cases h
    rw [← Nat.eq_of_beq_eq_true hb.1, ← Nat.eq_of_beq_eq_true hb.2]; rfl
theorem unp_na (e : ET) (x : e.den) : V.na.go (vl (unp e x)) = true := by rw [unp_v]; exact enc_na e x
theorem Sh.sv_na : ∀ (s : Sh) (x : s.den), (s.sv x).v.na = true
  | .cell e, x => by
    show (hd1 (unp e x)).v.na = true
    unfold hd1; split
    · rename_i c hc
      have := unp_na e x
      rw [hc] at this
      simpa [SV.v.go, V.na.go] using this
    · rfl
  | .agg e, x => unp_na e x
  | .box e, x => unp_na e x
  | .rp e, x => unp_na e x
  | .bld _ _, _ => rfl

/-- Several at once. -/
@[reducible] def Den : List Sh → Type
  | [] => Unit
  | [s] => s.den
  | s :: t :: l => s.den × Den (t :: l)
def svL : (l : List Sh) → Den l → List SV
  | [], _ => []
  | [s], x => [s.sv x]
  | s :: t :: l, x => s.sv x.1 :: svL (t :: l) x.2
def decL : (l : List Sh) → List SV → Option (Den l)
  | [], [] => some ()
  | [s], [v] => s.dec v
  | s :: t :: l, v :: vs => (s.dec v).bind fun x => (decL (t :: l) vs).bind fun r => some (x, r)
  | _, _ => none
theorem decL_v : ∀ {l : List Sh} {vs : List SV} {x : Den l}, decL l vs = some x → vl (svL l x) = vl vs
  | [], [], x, h => rfl
  | [s], [v], x, h => by
    simp only [decL] at h
    simp only [svL, SV.v.go, Sh.dec_v h]
  | s :: t :: l, v :: vs, x, h => by
    simp only [decL] at h
    obtain ⟨y, hy, h⟩ := Option.bind_eq_some_iff.1 h
    obtain ⟨r, hr, h⟩ := Option.bind_eq_some_iff.1 h
    cases h
    simp only [svL, SV.v.go, Sh.dec_v hy]
    rw [show SV.v.go (svL (t :: l) r) = vl vs from decL_v hr]
  | [], _ :: _, _, h => by simp [decL] at h
  | [s], [], _, h => by simp [decL] at h
  | [s], _ :: _ :: _, _, h => by simp [decL] at h
  | s :: t :: l, [], _, h => by simp [decL] at h
theorem svL_len : ∀ (l : List Sh) (x : Den l), (svL l x).length = l.length
  | [], _ => rfl
  | [s], _ => rfl
  | s :: t :: l, x => by simp [svL, svL_len (t :: l)]
theorem svL_na : ∀ (l : List Sh) (x : Den l), V.na.go (vl (svL l x)) = true
  | [], _ => rfl
  | [s], x => by simp [svL, SV.v.go, V.na.go, Sh.sv_na]
  | s :: t :: l, x => by simp only [svL, SV.v.go, V.na.go, Sh.sv_na, Bool.true_and]; exact svL_na (t :: l) x.2

/-- A function as it is known: what it takes; which of it, handed over for writing, it leaves (place, shape); what it gives; what it computes: its results, and what it leaves. -/
structure TFn where
  f : Nat
  args : List Sh
  outs : List Nat
  res : List Sh
  os : List Sh
  T : Den args → Option (Den (res ++ os))
def oneS : List SV → SV
  | [v] => v
  | vs => .tup vs
theorem oneS_v (vs : List SV) : (oneS vs).v = oneV (vl vs) := by
  match vs with
  | [] => rfl
  | [v] => rfl
  | v :: w :: vs => rfl
/-- What is left of the arguments handed over for writing. -/
def Outs (is : List Nat) (vs : List V) (outs : List V) : Prop :=
  ∀ (j i : Nat) (v : V), is[j]? = some i → vs[j]? = some v → outs[i]? = some v
def FnOk (P : Program) (F : TFn) : Prop :=
  entB P F.f = true ∧ ∀ a r, F.T a = some r → Ok P F.f (vl (svL F.args a)) fun v outs => v = oneV ((vl (svL (F.res ++ F.os) r)).take F.res.length) ∧ Outs F.outs ((vl (svL (F.res ++ F.os) r)).drop F.res.length) outs
def find (f : Nat) : List TFn → Option TFn
  | [] => none
  | F :: l => bif Nat.beq F.f f then some F else find f l
theorem find_ok {P : Program} {f : Nat} : ∀ {H : List TFn} {F : TFn}, (∀ F ∈ H, FnOk P F) → find f H = some F → FnOk P F ∧ F.f = f
  | [], _, _, h => by simp [find] at h
  | G :: H, F, hH, h => by
    simp only [find, cond_if] at h
    split at h
    · rename_i hb
      cases h
      exact ⟨hH _ (by simp), Nat.eq_of_beq_eq_true hb⟩
    · exact find_ok (fun F hF => hH F (by simp [hF])) h

section
variable {R : Type} {r0 : R} {P : Program}

/-- A call by contract: the arguments, then the result and what is left. -/
def appK (H : List TFn) (f : Nat) (vs : List SV) (k : TFn → SV → List SV → Option R) : Option R :=
  match find f H with
  | some F => match decL F.args vs with
    | some a => (F.T a).bind fun r => k F (oneS ((svL (F.res ++ F.os) r).take F.res.length)) ((svL (F.res ++ F.os) r).drop F.res.length)
    | none => none
  | none => none
theorem appK_v {H : List TFn} {f : Nat} {vs : List SV} {k : TFn → SV → List SV → Option R} (hH : ∀ F ∈ H, FnOk P F) (h : appK H f vs k = some r0) :
    ∃ F v os, Ok P f (vl vs) (fun res outs => res = v.v ∧ Outs F.outs (vl os) outs) ∧ V.na.go (vl vs) = true ∧ k F v os = some r0 ∧ entB P f = true := by
  unfold appK at h
  split at h <;> try (cases h; done)
  rename_i F hF
  split at h <;> try (cases h; done)
  rename_i a ha
  obtain ⟨r, hr, h⟩ := Option.bind_eq_some_iff.1 h
  obtain ⟨h1, rfl⟩ := find_ok hH hF
  refine ⟨_, _, _, ?_, by rw [← decL_v ha]; exact svL_na _ _, h, h1.1⟩
  have := h1.2 a r hr
  rw [decL_v ha] at this
  refine this.mono fun v o hvo => ?_
  rw [oneS_v, vl_take, vl_drop]; exact hvo

theorem na_take {l : List V} (h : V.na.go l = true) (n : Nat) : V.na.go (l.take n) = true := by
  induction l generalizing n with
  | nil => simp [V.na.go]
  | cons v l ih =>
    simp only [V.na.go, Bool.and_eq_true] at h
    cases n with
    | zero => rfl
    | succ n => simp [V.na.go, h.1, ih h.2]
theorem na_drop {l : List V} (h : V.na.go l = true) (n : Nat) : V.na.go (l.drop n) = true := by
  induction l generalizing n with
  | nil => simp [V.na.go]
  | cons v l ih =>
    simp only [V.na.go, Bool.and_eq_true] at h
    cases n with
    | zero => simp [V.na.go, h.1, h.2]
    | succ n => simpa using ih h.2 n

def plcS : SV → Nat
  | .box _ => 0
  | .sl _ e _ => e.wid + 2
  | .nil _ n => n + 2
  | _ => 1
theorem plcS_v (v : SV) : v.v.plc = plcS v := by cases v <;> rfl
/-- What is handed over of a variable: its own slices; the rest as it was loaded. -/
def innS (r : Nat) (p : List (Nat × Nat)) (ver hv : Nat) : Nat → List SV → List SV → Option (List SV)
  | _, [], [] => some []
  | k, c :: cs, v :: vs => match innS r p ver hv (k + 1) cs vs with
    | some l => bif c.cp then bif v.cp && v.na then some (v :: l) else none
      else match v with
        | .al y => bif !y.ptr && (Nat.beq y.root r && (Nat.beq y.ver ver && Nat.beq y.hv hv)) then if y.path = padd p k then some (c :: l) else none else none
        | _ => none
    | none => none
  | _, _, _ => none
theorem innS_v {r ver hv : Nat} {p : List (Nat × Nat)} : ∀ {k : Nat} {cs vs l : List SV}, innS r p ver hv k cs vs = some l → innV r p ver hv k (vl cs) (vl vs) = some (vl l)
  | k, [], [], l, h => by simp only [innS] at h; cases h; rfl
  | k, c :: cs, v :: vs, l, h => by
    simp only [innS] at h
    split at h <;> try (cases h; done)
    rename_i l' hl
    have ih := innS_v hl
    simp only [SV.v.go, innV]
    rw [ih]
    simp only [SV.cp_v, SV.na_v]
    rw [cond_if] at h
    split at h
    · rename_i hc
      rw [cond_if] at h
      split at h <;> try (cases h; done)
      rename_i hv
      simp only [Bool.and_eq_true] at hv
      cases h
      rw [if_pos hc, if_pos hv.1, if_pos hv.2]; rfl
    · rename_i hc
      split at h <;> try (cases h; done)
      rename_i y
      rw [cond_if] at h
      split at h <;> try (cases h; done)
      rename_i hb
      split at h <;> try (cases h; done)
      rename_i hp
      simp only [Bool.and_eq_true, Bool.not_eq_true'] at hb
      obtain ⟨b1, b2, b5, b6⟩ := hb
      cases h
      rw [if_neg hc]
      simp only [SV.v]
      rw [if_pos b1, if_pos (Nat.eq_of_beq_eq_true b2), if_pos hp, if_pos (Nat.eq_of_beq_eq_true b5), if_pos (Nat.eq_of_beq_eq_true b6)]; rfl
  | _, [], _ :: _, _, h => by simp [innS] at h
  | _, _ :: _, [], _, h => by simp [innS] at h
def innK (r : Nat) (p : List (Nat × Nat)) (ver hv : Nat) : Nat → List SV → List SV → (List SV → Option R) → Option R
  | _, [], [], K => K []
  | k, c :: cs, v :: vs, K => innK r p ver hv (k + 1) cs vs fun l => bif c.cp then bif v.cp && v.na then K (v :: l) else none
      else match v with
        | .al y => bif !y.ptr && (Nat.beq y.root r && (Nat.beq y.ver ver && Nat.beq y.hv hv)) then if y.path = padd p k then K (c :: l) else none else none
        | _ => none
  | _, _, _, _ => none
theorem innK_v {r ver hv : Nat} {p : List (Nat × Nat)} : ∀ {cs : List SV} {k : Nat} {vs : List SV} {K : List SV → Option R}, innK r p ver hv k cs vs K = some r0 → ∃ l, innS r p ver hv k cs vs = some l ∧ K l = some r0
  | [], k, [], K, h => ⟨[], rfl, h⟩
  | c :: cs, k, v :: vs, K, h => by
    simp only [innK] at h
    obtain ⟨l, h1, h2⟩ := innK_v h
    simp only [innS, h1]
    rw [cond_if] at h2 ⊢
    split at h2
    · rename_i hc
      rw [if_pos hc]
      rw [cond_if] at h2 ⊢
      split at h2 <;> try (cases h2; done)
      rename_i hv
      rw [if_pos hv]
      exact ⟨_, rfl, h2⟩
    · rename_i hc
      rw [if_neg hc]
      split at h2 <;> try (cases h2; done)
      rename_i y
      rw [cond_if] at h2 ⊢
      split at h2 <;> try (cases h2; done)
      rename_i hb
      rw [if_pos hb]
      split at h2 <;> try (cases h2; done)
      rename_i hp
      rw [if_pos hp]
      exact ⟨_, rfl, h2⟩
  | [], k, _ :: _, K, h => by simp [innK] at h
  | _ :: _, k, [], K, h => by simp [innK] at h
def bakS : List SV → List SV → List SV
  | c :: cs, o :: os => (bif c.cp then c else o) :: bakS cs os
  | _, _ => []
theorem bakS_v : ∀ (cs os : List SV), vl (bakS cs os) = bakV (vl cs) (vl os)
  | c :: cs, o :: os => by
    simp only [bakS, SV.v.go, bakV, SV.cp_v, cond_if]
    rw [show SV.v.go (bakS cs os) = bakV (SV.v.go cs) (SV.v.go os) from bakS_v cs os]
    congr 1; split <;> rfl
  | [], _ => by simp [bakS, SV.v.go, bakV]
  | _ :: _, [] => by simp [bakS, SV.v.go, bakV]

def psub : List (Nat × Nat) → Nat → List (Nat × Nat)
  | [], _ => []
  | [(i, j)], k => [(i, j - k)]
  | q :: p, k => q :: psub p k
def base : Nat → List SV → Option (List (Nat × Nat))
  | _, [] => none
  | k, .al x :: _ => some (psub x.path k)
  | k, _ :: vs => base (k + 1) vs
def leftO (g : Bool) (o : SV) : Option (List SV) :=
  bif g then match o with
    | .agg os => some os
    | _ => none
  else some [o]
theorem leftO_v {g : Bool} {o : SV} {os : List SV} (h : leftO g o = some os) : o.v = mkV g (vl os) := by
  cases g with
  | true =>
    simp only [leftO, cond_true] at h
    split at h <;> cases h; rfl
  | false => simp only [leftO, cond_false] at h; cases h; rfl
/-- All that a temporary holds is lent. -/
def lendT (H : List TFn) (ts : TSt) (d f : Nat) (l1 : List (XO × Nat)) (q : Nat) (l2 : List (XO × Nat)) (k : List SUpd → Option R) : Option R :=
  bif Nat.beq d q then none else (ts.put q .hole).bvsK l1 fun v1 => (ts.put q .hole).bvsK l2 fun v2 => appK H f (v1 ++ (ts.get q).v :: v2) fun F v os => bif v.ns then match F.outs, os with
      | [], _ => k [⟨q, .pu, .hole⟩, ⟨d, .pu, v⟩]
      | [i], [o] => bif Nat.beq i l1.length && (o.ns && Nat.beq (plcS o) (plcS (ts.get q).v)) then k [⟨q, .mo, o⟩, ⟨d, .pu, v⟩] else none
      | _, _ => none
    else none
/-- The same, with nothing else but what is shared. -/
def lendTS (H : List TFn) (ts : TSt) (d f : Nat) (l1 : List XO) (q : Nat) (l2 : List XO) (k : List SUpd → Option R) : Option R :=
  bif Nat.beq d q || !(SV.cp.go (l1.map ts.val) && SV.cp.go (l2.map ts.val)) then none else appK H f (l1.map ts.val ++ (ts.get q).v :: l2.map ts.val) fun F v os => match F.outs, os with
      | [], _ => k [⟨q, .pu, .hole⟩, ⟨d, .pu, v⟩]
      | [i], [o] => bif Nat.beq i l1.length && Nat.beq (plcS o) (plcS (ts.get q).v) then k [⟨q, .mo, o⟩, ⟨d, .pu, v⟩] else none
      | _, _ => none
/-- Two are given away, the second as the last argument. -/
def lend2 (H : List TFn) (ts : TSt) (d f : Nat) (l1 : List (XO × Nat)) (q q2 : Nat) (l2 : List (XO × Nat)) (k : List SUpd → Option R) : Option R :=
  bif Nat.beq d q || (Nat.beq d q2 || Nat.beq q q2) then none else ((ts.put q .hole).put q2 .hole).bvsK l1 fun v1 => ((ts.put q .hole).put q2 .hole).bvsK l2 fun v2 => appK H f (v1 ++ (ts.get q).v :: (v2 ++ [(ts.get q2).v])) fun F v os => bif v.ns then match F.outs, os with
      | [i], [o] => bif Nat.beq i l1.length && (o.ns && Nat.beq (plcS o) (plcS (ts.get q).v)) then k [⟨q2, .pu, .hole⟩, ⟨q, .mo, o⟩, ⟨d, .pu, v⟩] else k [⟨q, .pu, .hole⟩, ⟨q2, .pu, .hole⟩, ⟨d, .pu, v⟩]
      | _, _ => k [⟨q, .pu, .hole⟩, ⟨q2, .pu, .hole⟩, ⟨d, .pu, v⟩]
    else none
/-- The slices in a place are lent. -/
def lendA (H : List TFn) (ts : TSt) (d f : Nat) (l1 : List (XO × Nat)) (r : Nat) (l2 : List (XO × Nat)) (g : Bool) (p : List (Nat × Nat)) (vs : List SV) (ex : List SUpd) (k : List SUpd → Option R) : Option R :=
  bif Nat.beq d r || !(SV.cp.go vs) then none else getK vs.length (ts.get r).v p fun cs => innK r p (ts.get r).ver (ts.get r).hv 0 cs vs fun as => bif SV.na.go cs then (ts.put r .hole).bvsK l1 fun v1 => (ts.put r .hole).bvsK l2 fun v2 => appK H f (v1 ++ mkS g as :: v2) fun F v os => bif v.ns then match F.outs, os with
        | [i], [o] => match leftO g o with
          | some os => bif Nat.beq i l1.length && (SV.ns.go os && Nat.beq os.length vs.length) then updK vs.length (fun _ => some (bakS cs os)) (ts.get r).v p fun _ w' => k (⟨r, .mo, w'⟩ :: ⟨d, .pu, v⟩ :: ex) else none
          | none => none
        | _, _ => none
      else none
      else none
/-- A step that may be a call. -/
def stepC (H : List TFn) (x : XOp) (e : ET) (ts : TSt) (k : List SUpd → Option R) : Option R :=
  match x with
  | .callB d f ys => ts.bvsK ys fun vs => appK H f vs fun F v os => bif v.ns then k [⟨d, .pu, v⟩] else none
  | .callS d f ys => bif SV.cp.go (ys.map ts.val) then appK H f (ys.map ts.val) fun F v os => k [⟨d, .pu, v⟩] else none
  | .callF d x ys => match ts.val x with
    | .fn g cs => bif SV.cp.go (ys.map ts.val) && SV.cp.go cs then appK H g (ys.map ts.val ++ cs) fun F v os => k [⟨d, .pu, v⟩] else none
    | _ => none
  | .callM d f l1 (.tmp q) l2 => lendT H ts d f l1 q l2 k
  | .callM d f l1 (.tmpS q) l2 => lendTS H ts d f (l1.map (·.1)) q (l2.map (·.1)) k
  | .callM d f l1 (.tmp2 q q2) l2 => lend2 H ts d f l1 q q2 l2 k
  | .callM d f l1 (.ptrS y q) l2 => match ts.res y, ts.resH y, (ts.get q).v with
    | some (r, [(0, 0)]), _, .box _ => bif Nat.beq r q then lendTS H ts d f (l1.map (·.1)) q (l2.map (·.1)) k else none
    | none, some (r, []), _ => bif Nat.beq r q then lendTS H ts d f (l1.map (·.1)) q (l2.map (·.1)) k else none
    | _, _, _ => none
  | .callM d f l1 (.ptr y q) l2 => match ts.res y, ts.resH y, (ts.get q).v with
    | some (r, [(0, 0)]), _, .box _ => bif Nat.beq r q then lendT H ts d f l1 q l2 k else none
    | none, some (r, []), _ => bif Nat.beq r q then lendT H ts d f l1 q l2 k else none
    | _, _, _ => none
  | .callM d f l1 (.agg y r) l2 => match ts.val y with
    | .al x => lendA H ts d f l1 r l2 false x.path [.al x] [] k
    | .agg vs => match base 0 vs with
      | some p => lendA H ts d f l1 r l2 true p vs [] k
      | none => none
    | _ => none
  | .callM d f l1 (.aggS y r z) l2 => match (ts.get r).v with
    | .box _ => match (ts.get z).v with
      | .agg ss => bif Nat.beq z r || Nat.beq z d then none else match ts.val y with
        | .al x => lendA H ts d f l1 r l2 false x.path [.al x] [⟨z, .mo, .agg (rfS r (ts.get r).ver (ts.get r).hv ss)⟩] k
        | .agg vs => match base 0 vs with
          | some p => lendA H ts d f l1 r l2 true p vs [⟨z, .mo, .agg (rfS r (ts.get r).ver (ts.get r).hv ss)⟩] k
          | none => none
        | _ => none
      | _ => none
    | _ => none
  | x => stepS x e ts k
theorem ns_of {v : SV} {w : V} (h : w = v.v) (hn : v.ns = true) : w.noShr = true := by rw [h]; exact SV.ns_v v hn
theorem na_mid {a b : List V} {m : V} (h : V.na.go (a ++ m :: b) = true) : V.na.go a = true ∧ m.na = true ∧ V.na.go b = true := by
  rw [na_go_app] at h
  simp only [V.na.go, Bool.and_eq_true] at h
  exact ⟨h.1, h.2.1, h.2.2⟩

theorem lendT_v {H : List TFn} {ts : TSt} {d f q : Nat} {l1 l2 : List (XO × Nat)} {k : List SUpd → Option R} (hH : ∀ F ∈ H, FnOk P F) (h : lendT H ts d f l1 q l2 k = some r0) :
    ∃ us, callMT P d f l1 q l2 ts.enc (fun st' => st' = (ts.upds us).enc) ∧ (d ≠ q ∧ ((∃ v, us.map SUpd.enc = [⟨q, .pu, .hole⟩, ⟨d, .pu, v⟩]) ∨ ∃ o v, us.map SUpd.enc = [⟨q, .mo, o⟩, ⟨d, .pu, v⟩])) ∧ k us = some r0 := by
  unfold lendT at h
  rw [cond_if] at h
  split at h <;> try (cases h; done)
  rename_i hd
  obtain ⟨v1, h1, h⟩ := bvsK_v h
  obtain ⟨v2, h2, h⟩ := bvsK_v h
  obtain ⟨F, v, os, h3, h4, h5, _⟩ := appK_v hH h
  rw [enc_put] at h1 h2
  rw [cond_if] at h5
  split at h5 <;> try (cases h5; done)
  rename_i hn
  have e1 : (l1.map fun y => (ts.enc.put q V.hole).bv y.2 y.1) ++ (ts.enc q).v :: (l2.map fun y => (ts.enc.put q V.hole).bv y.2 y.1) = vl (v1 ++ (ts.get q).v :: v2) := by
    rw [vl_app, show (l1.map fun y => (ts.enc.put q V.hole).bv y.2 y.1) = vl v1 from h1, show (l2.map fun y => (ts.enc.put q V.hole).bv y.2 y.1) = vl v2 from h2]; rfl
  rw [← e1] at h3 h4
  obtain ⟨n1, n2, n3⟩ := na_mid h4
  split at h5 <;> try (cases h5; done)
  · refine ⟨_, ⟨beq_false hd, n1, n3, n2, _, h3, fun res outs hr => ⟨ns_of hr.1 hn, .inl ?_⟩⟩, ⟨beq_false hd, .inl ⟨_, rfl⟩⟩, h5⟩
    rw [enc_upds, hr.1]; rfl
  · rename_i i o hO
    rw [cond_if] at h5
    split at h5 <;> try (cases h5; done)
    rename_i hb
    simp only [Bool.and_eq_true] at hb
    refine ⟨_, ⟨beq_false hd, n1, n3, n2, _, h3, fun res outs hr => ⟨ns_of hr.1 hn, .inr ⟨o.v, ?_, SV.ns_v o hb.2.1, ?_, ?_⟩⟩⟩, ⟨beq_false hd, .inr ⟨_, _, rfl⟩⟩, h5⟩
    · rw [← Nat.eq_of_beq_eq_true hb.1]
      exact hr.2 0 i o.v (by rw [hO]; rfl) rfl
    · rw [plcS_v, enc_v, plcS_v]; exact Nat.eq_of_beq_eq_true hb.2.2
    · rw [enc_upds, hr.1]; rfl

theorem lend2_v {H : List TFn} {ts : TSt} {d f q q2 : Nat} {l1 l2 : List (XO × Nat)} {k : List SUpd → Option R} (hH : ∀ F ∈ H, FnOk P F) (h : lend2 H ts d f l1 q q2 l2 k = some r0) :
    ∃ us, callM2 P d f l1 q q2 l2 ts.enc (fun st' => st' = (ts.upds us).enc) ∧ ((d ≠ q ∧ d ≠ q2 ∧ q ≠ q2) ∧ ((∃ v, us.map SUpd.enc = [⟨q, .pu, .hole⟩, ⟨q2, .pu, .hole⟩, ⟨d, .pu, v⟩]) ∨ ∃ o v, us.map SUpd.enc = [⟨q2, .pu, .hole⟩, ⟨q, .mo, o⟩, ⟨d, .pu, v⟩])) ∧ k us = some r0 := by
  unfold lend2 at h
  rw [cond_if] at h
  split at h <;> try (cases h; done)
  rename_i hd
  simp only [Bool.or_eq_true, not_or] at hd
  obtain ⟨hd1, hd2, hd3⟩ := hd
  obtain ⟨v1, h1, h⟩ := bvsK_v h
  obtain ⟨v2, h2, h⟩ := bvsK_v h
  obtain ⟨F, v, os, h3, h4, h5, _⟩ := appK_v hH h
  rw [enc_put, enc_put] at h1 h2
  rw [cond_if] at h5
  split at h5 <;> try (cases h5; done)
  rename_i hn
  have e1 : (l1.map fun y => ((ts.enc.put q V.hole).put q2 V.hole).bv y.2 y.1) ++ (ts.enc q).v :: ((l2.map fun y => ((ts.enc.put q V.hole).put q2 V.hole).bv y.2 y.1) ++ [(ts.enc q2).v]) = vl (v1 ++ (ts.get q).v :: (v2 ++ [(ts.get q2).v])) := by
    rw [vl_app, show (l1.map fun y => ((ts.enc.put q V.hole).put q2 V.hole).bv y.2 y.1) = vl v1 from h1, show (l2.map fun y => ((ts.enc.put q V.hole).put q2 V.hole).bv y.2 y.1) = vl v2 from h2]
    show vl v1 ++ (ts.get q).v.v :: (vl v2 ++ [(ts.get q2).v.v]) = vl v1 ++ (ts.get q).v.v :: vl (v2 ++ [(ts.get q2).v])
    rw [vl_app]; rfl
  rw [← e1] at h3 h4
  obtain ⟨n1, n2, n3⟩ := na_mid h4
  rw [na_go_app, Bool.and_eq_true] at n3
  have n4 : (ts.enc q2).v.na = true := by have := n3.2; simpa [V.na.go] using this
  split at h5
  · rename_i i o hO
    rw [cond_if] at h5
    split at h5
    · rename_i hb
      simp only [Bool.and_eq_true] at hb
      refine ⟨_, ⟨⟨beq_false hd1, beq_false hd2, beq_false hd3⟩, n1, n3.1, n2, n4, _, h3, fun res outs hr => ⟨ns_of hr.1 hn, .inr ⟨o.v, ?_, SV.ns_v o hb.2.1, ?_, ?_⟩⟩⟩, ⟨⟨beq_false hd1, beq_false hd2, beq_false hd3⟩, .inr ⟨_, _, rfl⟩⟩, h5⟩
      · rw [← Nat.eq_of_beq_eq_true hb.1]
        exact hr.2 0 i o.v (by rw [hO]; rfl) rfl
      · rw [plcS_v, enc_v, plcS_v]; exact Nat.eq_of_beq_eq_true hb.2.2
      · rw [enc_upds, hr.1]; rfl
    · refine ⟨_, ⟨⟨beq_false hd1, beq_false hd2, beq_false hd3⟩, n1, n3.1, n2, n4, _, h3, fun res outs hr => ⟨ns_of hr.1 hn, .inl ?_⟩⟩, ⟨⟨beq_false hd1, beq_false hd2, beq_false hd3⟩, .inl ⟨_, rfl⟩⟩, h5⟩
      rw [enc_upds, hr.1]; rfl
  · refine ⟨_, ⟨⟨beq_false hd1, beq_false hd2, beq_false hd3⟩, n1, n3.1, n2, n4, _, h3, fun res outs hr => ⟨ns_of hr.1 hn, .inl ?_⟩⟩, ⟨⟨beq_false hd1, beq_false hd2, beq_false hd3⟩, .inl ⟨_, rfl⟩⟩, h5⟩
    rw [enc_upds, hr.1]; rfl
theorem lendTS_v {H : List TFn} {ts : TSt} {d f q : Nat} {l1 l2 : List XO} {k : List SUpd → Option R} (hH : ∀ F ∈ H, FnOk P F) (h : lendTS H ts d f l1 q l2 k = some r0) :
    ∃ us, callMTS P d f l1 q l2 ts.enc (fun st' => st' = (ts.upds us).enc) ∧ (d ≠ q ∧ ((∃ v, us.map SUpd.enc = [⟨q, .pu, .hole⟩, ⟨d, .pu, v⟩]) ∨ ∃ o v, us.map SUpd.enc = [⟨q, .mo, o⟩, ⟨d, .pu, v⟩])) ∧ k us = some r0 := by
  unfold lendTS at h
  rw [cond_if] at h
  split at h <;> try (cases h; done)
  rename_i hd
  simp only [Bool.or_eq_true, Bool.not_eq_true', not_or, Bool.not_eq_false, Bool.and_eq_true] at hd
  obtain ⟨hd, hc1, hc2⟩ := hd
  obtain ⟨F, v, os, h3, h4, h5, _⟩ := appK_v hH h
  have e1 : ∀ l : List XO, l.map ts.enc.val = vl (l.map ts.val) := fun l => by rw [vl_map, List.map_map]; congr 1; funext y; exact enc_val ts y
  have e2 : l1.map ts.enc.val ++ (ts.enc q).v :: l2.map ts.enc.val = vl (l1.map ts.val ++ (ts.get q).v :: l2.map ts.val) := by
    rw [vl_app, e1, e1]; rfl
  rw [← e2] at h3 h4
  split at h5 <;> try (cases h5; done)
  · refine ⟨_, ⟨beq_false hd, by rw [e1, cp_vl]; exact hc1, by rw [e1, cp_vl]; exact hc2, h4, _, h3, fun res outs hr => .inl ?_⟩, ⟨beq_false hd, .inl ⟨_, rfl⟩⟩, h5⟩
    rw [enc_upds, hr.1]; rfl
  · rename_i i o hO
    rw [cond_if] at h5
    split at h5 <;> try (cases h5; done)
    rename_i hb
    simp only [Bool.and_eq_true] at hb
    refine ⟨_, ⟨beq_false hd, by rw [e1, cp_vl]; exact hc1, by rw [e1, cp_vl]; exact hc2, h4, _, h3, fun res outs hr => .inr ⟨o.v, ?_, ?_, ?_⟩⟩, ⟨beq_false hd, .inr ⟨_, _, rfl⟩⟩, h5⟩
    · rw [← Nat.eq_of_beq_eq_true hb.1]
      exact hr.2 0 i o.v (by rw [hO]; rfl) rfl
    · rw [plcS_v, enc_v, plcS_v]; exact Nat.eq_of_beq_eq_true hb.2
    · rw [enc_upds, hr.1]; rfl
theorem lendA_v {H : List TFn} {ts : TSt} {d f r : Nat} {l1 l2 : List (XO × Nat)} {y : XO} {g : Bool} {p : List (Nat × Nat)} {vs : List SV} {ex : List SUpd} {k : List SUpd → Option R} (hH : ∀ F ∈ H, FnOk P F) (hg : g = false → vs.length = 1) (hvs : (ts.val y).v = mkV g (vl vs)) (h : lendA H ts d f l1 r l2 g p vs ex k = some r0) :
    ∃ us w' v, us = ⟨r, .mo, w'⟩ :: ⟨d, .pu, v⟩ :: ex ∧ d ≠ r ∧ (∃ n g p cs vs as, (ts.enc r).v.getR n p = some cs ∧ (g = false → n = 1) ∧ vs.length = n ∧ ts.enc.val y = mkV g vs ∧ V.cp.go vs = true ∧ innV r p (ts.enc r).ver (ts.enc r).hv 0 cs vs = some as ∧ V.na.go cs = true ∧
      V.na.go (l1.map fun y => (ts.enc.put r .hole).bv y.2 y.1) = true ∧ V.na.go (l2.map fun y => (ts.enc.put r .hole).bv y.2 y.1) = true ∧
      ∃ R, Ok P f (l1.map (fun y => (ts.enc.put r .hole).bv y.2 y.1) ++ mkV g as :: l2.map (fun y => (ts.enc.put r .hole).bv y.2 y.1)) R ∧
        ∀ res outs, R res outs → res.noShr = true ∧ ∃ os, outs[l1.length]? = some (mkV g os) ∧ V.noShr.go os = true ∧ os.length = n ∧ (ts.enc.mod r ((ts.enc r).v.setR p (bakV cs os))).put d res = (ts.enc.mod r w'.v).put d v.v) ∧ k us = some r0 := by
  unfold lendA at h
  rw [cond_if] at h
  split at h <;> try (cases h; done)
  rename_i hc
  simp only [Bool.or_eq_true, Bool.not_eq_true', not_or, Bool.not_eq_false] at hc
  obtain ⟨hd, hcp⟩ := hc
  obtain ⟨cs, u1, h⟩ := getK_v h
  obtain ⟨as, has, h⟩ := innK_v h
  rw [cond_if] at h
  split at h <;> try (cases h; done)
  rename_i hna
  obtain ⟨v1, h1, h⟩ := bvsK_v h
  obtain ⟨v2, h2, h⟩ := bvsK_v h
  obtain ⟨F, v, os, h3, h4, h5, _⟩ := appK_v hH h
  rw [enc_put] at h1 h2
  rw [cond_if] at h5
  split at h5 <;> try (cases h5; done)
  rename_i hn
  split at h5 <;> try (cases h5; done)
  rename_i i o hO
  split at h5 <;> try (cases h5; done)
  rename_i os' hos
  rw [cond_if] at h5
  split at h5 <;> try (cases h5; done)
  rename_i hb
  simp only [Bool.and_eq_true] at hb
  obtain ⟨cs3, ys3, w', t1, _, ⟨cs4, t2, t3⟩, t4, t5, h6⟩ := updK_v h5
  cases t3
  rw [bakS_v] at t5
  have e1 : (l1.map fun y => (ts.enc.put r V.hole).bv y.2 y.1) ++ mkV g (vl as) :: (l2.map fun y => (ts.enc.put r V.hole).bv y.2 y.1) = vl (v1 ++ mkS g as :: v2) := by
    rw [vl_app, show (l1.map fun y => (ts.enc.put r V.hole).bv y.2 y.1) = vl v1 from h1, show (l2.map fun y => (ts.enc.put r V.hole).bv y.2 y.1) = vl v2 from h2, ← mkS_v]; rfl
  rw [← e1] at h3 h4
  obtain ⟨n1, n2, n3⟩ := na_mid h4
  refine ⟨_, w', v, rfl, beq_false hd, ⟨vs.length, g, p, vl cs, vl vs, vl as, u1, hg, vl_len vs, by rw [enc_val]; exact hvs, by rw [cp_vl]; exact hcp, innS_v has, by rw [na_vl]; exact hna, n1, n3, _, h3, fun res outs hr => ⟨ns_of hr.1 hn, vl os', ?_, ns_vl os' hb.2.1, ?_, ?_⟩⟩, h6⟩
  · rw [← Nat.eq_of_beq_eq_true hb.1, ← leftO_v hos]
    exact hr.2 0 i o.v (by rw [hO]; rfl) rfl
  · rw [vl_len]; exact Nat.eq_of_beq_eq_true hb.2.2
  · rw [hr.1, ← t5]; rfl

theorem lendA_0 {ts : TSt} {d f r : Nat} {l1 l2 : List (XO × Nat)} {y : XO} {k : List SUpd → Option R} (h : ∃ us w' v, us = ⟨r, .mo, w'⟩ :: ⟨d, .pu, v⟩ :: [] ∧ d ≠ r ∧ (∃ n g p cs vs as, (ts.enc r).v.getR n p = some cs ∧ (g = false → n = 1) ∧ vs.length = n ∧ ts.enc.val y = mkV g vs ∧ V.cp.go vs = true ∧ innV r p (ts.enc r).ver (ts.enc r).hv 0 cs vs = some as ∧ V.na.go cs = true ∧
      V.na.go (l1.map fun y => (ts.enc.put r .hole).bv y.2 y.1) = true ∧ V.na.go (l2.map fun y => (ts.enc.put r .hole).bv y.2 y.1) = true ∧
      ∃ R, Ok P f (l1.map (fun y => (ts.enc.put r .hole).bv y.2 y.1) ++ mkV g as :: l2.map (fun y => (ts.enc.put r .hole).bv y.2 y.1)) R ∧
        ∀ res outs, R res outs → res.noShr = true ∧ ∃ os, outs[l1.length]? = some (mkV g os) ∧ V.noShr.go os = true ∧ os.length = n ∧ (ts.enc.mod r ((ts.enc r).v.setR p (bakV cs os))).put d res = (ts.enc.mod r w'.v).put d v.v) ∧ k us = some r0) :
    ∃ us, stepX P (.callM d f l1 (.agg y r) l2) ts.enc (fun st' => st' = (ts.upds us).enc) ∧ CallU (.callM d f l1 (.agg y r) l2) ts.enc (us.map SUpd.enc) ∧ k us = some r0 := by
  obtain ⟨us, w', v, rfl, hd, ⟨n, g, p, cs, vs, as, g1, g2, g3, g4, g5, g6, g7, g8, g9, R, g10, g11⟩, hk⟩ := h
  refine ⟨_, ⟨hd, n, g, p, cs, vs, as, g1, g2, g3, g4, g5, g6, g7, g8, g9, R, g10, fun res outs hr => ?_⟩, ⟨hd, _, _, rfl⟩, hk⟩
  obtain ⟨k1, os, k2, k3, k4, k5⟩ := g11 res outs hr
  refine ⟨k1, os, k2, k3, k4, ?_⟩
  rw [enc_upds, k5]; rfl
theorem lendA_1 {ts : TSt} {d f r z : Nat} {l1 l2 : List (XO × Nat)} {y : XO} {bs ss : List SV} {k : List SUpd → Option R} (hzr : z ≠ r) (hzd : z ≠ d) (hbs : (ts.get r).v = .box bs) (hss : (ts.get z).v = .agg ss) (h : ∃ us w' v, us = ⟨r, .mo, w'⟩ :: ⟨d, .pu, v⟩ :: [⟨z, .mo, .agg (rfS r (ts.get r).ver (ts.get r).hv ss)⟩] ∧ d ≠ r ∧ (∃ n g p cs vs as, (ts.enc r).v.getR n p = some cs ∧ (g = false → n = 1) ∧ vs.length = n ∧ ts.enc.val y = mkV g vs ∧ V.cp.go vs = true ∧ innV r p (ts.enc r).ver (ts.enc r).hv 0 cs vs = some as ∧ V.na.go cs = true ∧
      V.na.go (l1.map fun y => (ts.enc.put r .hole).bv y.2 y.1) = true ∧ V.na.go (l2.map fun y => (ts.enc.put r .hole).bv y.2 y.1) = true ∧
      ∃ R, Ok P f (l1.map (fun y => (ts.enc.put r .hole).bv y.2 y.1) ++ mkV g as :: l2.map (fun y => (ts.enc.put r .hole).bv y.2 y.1)) R ∧
        ∀ res outs, R res outs → res.noShr = true ∧ ∃ os, outs[l1.length]? = some (mkV g os) ∧ V.noShr.go os = true ∧ os.length = n ∧ (ts.enc.mod r ((ts.enc r).v.setR p (bakV cs os))).put d res = (ts.enc.mod r w'.v).put d v.v) ∧ k us = some r0) :
    ∃ us, stepX P (.callM d f l1 (.aggS y r z) l2) ts.enc (fun st' => st' = (ts.upds us).enc) ∧ CallU (.callM d f l1 (.aggS y r z) l2) ts.enc (us.map SUpd.enc) ∧ k us = some r0 := by
  obtain ⟨us, w', v, rfl, hd, ⟨n, g, p, cs, vs, as, g1, g2, g3, g4, g5, g6, g7, g8, g9, R, g10, g11⟩, hk⟩ := h
  refine ⟨_, ⟨hd, hzr, hzd, vl ss, vl bs, by rw [enc_v, hss]; rfl, by rw [enc_v, hbs]; rfl, n, g, p, cs, vs, as, g1, g2, g3, g4, g5, g6, g7, g8, g9, R, g10, fun res outs hr => ?_⟩, ⟨hd, hzr, hzd, _, _, _, rfl⟩, hk⟩
  obtain ⟨k1, os, k2, k3, k4, k5⟩ := g11 res outs hr
  refine ⟨k1, os, k2, k3, k4, ?_⟩
  rw [enc_upds, k5, ← rfS_v]; rfl

theorem stepC_v {H : List TFn} {x : XOp} {e : ET} {ts : TSt} {k : List SUpd → Option R} (hH : ∀ F ∈ H, FnOk P F) (h : stepC H x e ts k = some r0) :
    ∃ us, stepX P x ts.enc (fun st' => st' = (ts.upds us).enc) ∧ CallU x ts.enc (us.map SUpd.enc) ∧ k us = some r0 := by
  unfold stepC at h
  split at h
  · rename_i d f ys
    obtain ⟨vs, h1, h2⟩ := bvsK_v h
    obtain ⟨F, v, os, h3, h4, h5, _⟩ := appK_v hH h2
    rw [cond_if] at h5
    split at h5 <;> try (cases h5; done)
    rename_i hn
    refine ⟨_, ?_, ⟨_, rfl⟩, h5⟩
    refine ⟨by rw [h1]; exact h4, v.v, by rw [h1]; exact h3.mono (fun _ _ h => h.1), SV.ns_v v hn, ?_⟩
    rw [enc_upds]; rfl
  · rename_i d f ys
    rw [cond_if] at h
    split at h <;> try (cases h; done)
    rename_i hc
    obtain ⟨F, v, os, h3, h4, h5, _⟩ := appK_v hH h
    have e1 : ys.map ts.enc.val = vl (ys.map ts.val) := by rw [vl_map, List.map_map]; congr 1; funext y; exact enc_val ts y
    refine ⟨_, ?_, ⟨_, rfl⟩, h5⟩
    refine ⟨by rw [e1, cp_vl]; exact hc, by rw [e1]; exact h4, v.v, by rw [e1]; exact h3.mono (fun _ _ h => h.1), ?_⟩
    rw [enc_upds]; rfl
  · rename_i d x ys
    split at h <;> try (cases h; done)
    rename_i g cs hx
    rw [cond_if] at h
    split at h <;> try (cases h; done)
    rename_i hc
    simp only [Bool.and_eq_true] at hc
    obtain ⟨F, v, os, h3, h4, h5, h6⟩ := appK_v hH h
    have e1 : ys.map ts.enc.val = vl (ys.map ts.val) := by rw [vl_map, List.map_map]; congr 1; funext y; exact enc_val ts y
    rw [vl_app, ← e1] at h3 h4
    refine ⟨_, ⟨g, vl cs, by rw [enc_val, hx]; rfl, h6, by rw [e1, cp_vl]; exact hc.1, by rw [cp_vl]; exact hc.2, h4, v.v, h3.mono (fun _ _ h => h.1), ?_⟩, ⟨_, rfl⟩, h5⟩
    rw [enc_upds]; rfl
  · exact lendT_v hH h
  · exact lendTS_v hH h
  · exact lend2_v hH h
  · rename_i d f l1 y q l2
    split at h <;> try (cases h; done)
    · rename_i r cs hr _ hbx
      rw [cond_if] at h
      split at h <;> try (cases h; done)
      rename_i hq
      have hq' := Nat.eq_of_beq_eq_true hq
      subst hq'
      obtain ⟨us, h1, h2, h3⟩ := lendTS_v hH h
      exact ⟨us, ⟨.inl ⟨by rw [enc_res]; assumption, _, by rw [enc_v, hbx]; rfl⟩, h1⟩, h2, h3⟩
    · rename_i r _ hr
      rw [cond_if] at h
      split at h <;> try (cases h; done)
      rename_i hq
      have hq' := Nat.eq_of_beq_eq_true hq
      subst hq'
      obtain ⟨us, h1, h2, h3⟩ := lendTS_v hH h
      exact ⟨us, ⟨.inr (by rw [enc_resH]; assumption), h1⟩, h2, h3⟩
  · rename_i d f l1 y q l2
    split at h <;> try (cases h; done)
    · rename_i r cs hr _ hbx
      rw [cond_if] at h
      split at h <;> try (cases h; done)
      rename_i hq
      have hq' := Nat.eq_of_beq_eq_true hq
      subst hq'
      obtain ⟨us, h1, h2, h3⟩ := lendT_v hH h
      exact ⟨us, ⟨.inl ⟨by rw [enc_res]; assumption, _, by rw [enc_v, hbx]; rfl⟩, h1⟩, h2, h3⟩
    · rename_i r _ hr
      rw [cond_if] at h
      split at h <;> try (cases h; done)
      rename_i hq
      have hq' := Nat.eq_of_beq_eq_true hq
      subst hq'
      obtain ⟨us, h1, h2, h3⟩ := lendT_v hH h
      exact ⟨us, ⟨.inr (by rw [enc_resH]; assumption), h1⟩, h2, h3⟩
  · rename_i d f l1 y r l2
    split at h <;> try (cases h; done)
    · rename_i x hx
      exact lendA_0 (lendA_v hH (fun _ => rfl) (by rw [hx]; rfl) h)
    · rename_i vs hx
      split at h <;> try (cases h; done)
      exact lendA_0 (lendA_v hH (fun e => by cases e) (by rw [hx]; rfl) h)
  · rename_i d f l1 y r z l2
    split at h <;> try (cases h; done)
    rename_i bs hbs
    split at h <;> try (cases h; done)
    rename_i ss hss
    rw [cond_if] at h
    split at h <;> try (cases h; done)
    rename_i hz
    simp only [Bool.or_eq_true, not_or] at hz
    split at h <;> try (cases h; done)
    · rename_i x hx
      exact lendA_1 (beq_false hz.1) (beq_false hz.2) hbs hss (lendA_v hH (fun _ => rfl) (by rw [hx]; rfl) h)
    · rename_i vs hx
      split at h <;> try (cases h; done)
      exact lendA_1 (beq_false hz.1) (beq_false hz.2) hbs hss (lendA_v hH (fun e => by cases e) (by rw [hx]; rfl) h)
  · rename_i h1 h2 h3 h4 h7 h8 h9 h10
    obtain ⟨us, h5, h6⟩ := stepS_v h
    refine ⟨us, ?_, ?_, h6⟩
    rotate_left
    · cases x <;> first
        | exact h5
        | (exfalso; simp [stepU] at h5; done)
    have hs : stepX P x ts.enc (fun st' => st' = (ts.upds us).enc) = onU (stepU x ts.enc) ts.enc (fun st' => st' = (ts.upds us).enc) := by
      cases x <;> first
        | rfl
        | (exfalso; exact h1 _ _ _ rfl)
        | (exfalso; exact h2 _ _ _ rfl)
        | (exfalso; simp [stepU] at h5)
        | skip
      · rename_i d neg y
        exfalso; simp [stepS] at h
    rw [hs, h5]
    show ts.enc.upds _ = _
    rw [enc_upds]
end
end Go.Proofs.YtainknkfjekngaaDoor.Vm
