/- The operations over typed frames. -/
import Derived.Test.YtainknkfjekngaaDoorT1
namespace Go.Proofs.YtainknkfjekngaaDoor.Vm
open Go
set_option linter.unusedVariables false
set_option linter.unusedSimpArgs false

section
variable {R : Type} {r0 : R}

def SV.rest (v : SV) : SV := bif v.cp then v else .hole
theorem rest_v (v : SV) : v.rest.v = v.v.rest := by
  simp only [SV.rest, V.rest, SV.cp_v, cond_if]; split <;> rfl
theorem rests_v (cs : List SV) : vl (cs.map SV.rest) = (vl cs).map V.rest := by
  simp only [vl_map, List.map_map]; congr 1; funext v; exact rest_v v
def mkS (g : Bool) (cs : List SV) : SV := bif g then .agg cs else match cs with
  | c :: _ => c
  | [] => .hole
theorem mkS_v (g : Bool) (cs : List SV) : (mkS g cs).v = mkV g (vl cs) := by
  cases g
  · cases cs <;> rfl
  · rfl
def zsS : List V → Option (List SV)
  | [] => some []
  | v :: vs => match zsS vs with
    | some l => match v with
      | .lit (.int k n) => some (.int k n :: l)
      | .lit (.bool b) => some (.bool b :: l)
      | .lit (.string s) => some (.str s.data.toList :: l)
      | .lit v => some (.lit v :: l)
      | .sl o n [] => some (.nil o n :: l)
      | _ => none
    | none => none
theorem zsS_v : ∀ {vs : List V} {l : List SV}, zsS vs = some l → vl l = vs
  | [], l, h => by simp only [zsS] at h; cases h; rfl
  | v :: vs, l, h => by
    simp only [zsS] at h
    split at h <;> try (cases h; done)
    rename_i l' hl
    have ih := zsS_v hl
    split at h <;> cases h <;> simp only [SV.v.go, SV.v] <;> rw [show SV.v.go l' = vs from ih] <;> rfl

theorem ba_app (s t : List UInt8) : ba s ++ ba t = ba (s ++ t) := by
  apply ByteArray.ext
  simp [ba]
theorem ba_size' (s : List UInt8) : (ba s).size = s.length := by simp [ba, ByteArray.size]
theorem ba_extract (s : List UInt8) (l h : Nat) : (ba s).extract l h = ba ((s.take h).drop l) := by
  apply ByteArray.ext
  rw [ByteArray.data_extract]
  simp [ba, List.extract_eq_take_drop, List.take_drop]
  by_cases hh : l ≤ h
  · rw [show l + (h - l) = h by omega]
  · rw [show l + (h - l) = l by omega]
    rw [List.drop_eq_nil_of_le (by simp; omega), List.drop_eq_nil_of_le (by simp; omega)]

def binK (bt : Bool) (op : BinOp) (x y : SV) (k : SV → Option R) : Option R :=
  match x, y with
  | .int kk a, .int kk' b => match op with
    | .shl => if b < 0 then none else k (.int kk (kk.wrap (a * 2 ^ (min b.toNat kk.bits))))
    | .shr => if b < 0 then none else k (.int kk (a.fdiv (2 ^ (min b.toNat kk.bits))))
    | .add => if kk = kk' then k (.int kk (kk.wrap (a + b))) else none
    | .sub => if kk = kk' then k (.int kk (kk.wrap (a - b))) else none
    | .mul => if kk = kk' then k (.int kk (kk.wrap (a * b))) else none
    | .quo => if kk = kk' then if b = 0 then none else k (.int kk (kk.wrap (a.tdiv b))) else none
    | .rem => if kk = kk' then if b = 0 then none else k (.int kk (a.tmod b)) else none
    | .and => if kk = kk' then k (.int kk (kk.wrap (BitVec.ofInt kk.bits a &&& BitVec.ofInt kk.bits b).toNat)) else none
    | .or => if kk = kk' then k (.int kk (kk.wrap (BitVec.ofInt kk.bits a ||| BitVec.ofInt kk.bits b).toNat)) else none
    | .xor => if kk = kk' then k (.int kk (kk.wrap (BitVec.ofInt kk.bits a ^^^ BitVec.ofInt kk.bits b).toNat)) else none
    | .eql => if kk = kk' then k (.bool (a == b)) else none
    | .neq => if kk = kk' then k (.bool (!(a == b))) else none
    | .lss => if kk = kk' then k (.bool (decide (a < b))) else none
    | .leq => if kk = kk' then k (.bool (decide (a ≤ b))) else none
    | .gtr => if kk = kk' then k (.bool (decide (b < a))) else none
    | .geq => if kk = kk' then k (.bool (decide (b ≤ a))) else none
    | _ => none
  | .str a, .str b => match op with
    | .add => if ((a.length + b.length : Nat) : Int) > 9223372036854775807 then none else k (.str (a ++ b))
    | .eql => k (.bool (a == b))
    | .neq => k (.bool (!(a == b)))
    | .lss => k (.bool (Op.bytesLess a b))
    | .leq => k (.bool (Op.bytesLess a b || a == b))
    | .gtr => k (.bool !(Op.bytesLess a b || a == b))
    | .geq => k (.bool !(Op.bytesLess a b))
    | _ => none
  | .bool a, .bool b => bif bt then match op with
    | .eql => k (.bool (a == b))
    | .neq => k (.bool (!(a == b)))
    | _ => none
    else none
  | _, _ => none
theorem ba_toList' (s : List UInt8) : (ba s).toList = s := by
  rw [ByteArray.toList_eq]; simp [ba]
theorem binK_v {bt : Bool} {op : BinOp} {x y : SV} {k : SV → Option R} (h : binK bt op x y k = some r0) :
    ∃ a b v sv, x.v = .lit a ∧ y.v = .lit b ∧ binV bt op a b = some v ∧ sv.v = .lit v ∧ k sv = some r0 := by
  unfold binK at h
  split at h
  · rename_i kk a kk' b
    suffices hh : ∃ v sv, binV bt op (.int kk a) (.int kk' b) = some v ∧ sv.v = .lit v ∧ k sv = some r0 by
      obtain ⟨v, sv, h1, h2, h3⟩ := hh
      exact ⟨_, _, v, sv, rfl, rfl, h1, h2, h3⟩
    cases op <;> simp only [reduceCtorEq] at h <;>
      (split at h <;> first
        | (cases h; done)
        | (rename_i hb; exact ⟨_, _, by simp only [binV, isSh, if_true, binH]; rw [if_neg hb], rfl, h⟩)
        | (rename_i hk
           subst hk
           first
            | exact ⟨_, _, by first | (simp only [binV, isSh, Bool.false_eq_true, if_false, if_true, binI]; done) | (simp only [binV, isSh, Bool.false_eq_true, if_false, if_true, binI]; rfl), rfl, h⟩
            | (split at h <;> first
                | (cases h; done)
                | (rename_i hb; exact ⟨_, _, by simp only [binV, isSh, Bool.false_eq_true, if_false, if_true, binI]; rw [if_neg hb], rfl, h⟩))))
  · rename_i a b
    suffices hh : ∃ v sv, binV bt op (.string (ba a)) (.string (ba b)) = some v ∧ sv.v = .lit v ∧ k sv = some r0 by
      obtain ⟨v, sv, h1, h2, h3⟩ := hh
      exact ⟨_, _, v, sv, rfl, rfl, h1, h2, h3⟩
    cases op <;> simp only [reduceCtorEq] at h <;>
      first
        | (cases h; done)
        | exact ⟨_, _, by simp only [binV, binS, ba_toList'], rfl, h⟩
        | (split at h <;> first
            | (cases h; done)
            | (rename_i hb; exact ⟨_, .str (a ++ b), by simp only [binV, binS, ba_size', ba_app]; exact if_neg hb, rfl, h⟩))
  · rename_i a b
    suffices hh : ∃ v sv, binV bt op (.bool a) (.bool b) = some v ∧ sv.v = .lit v ∧ k sv = some r0 by
      obtain ⟨v, sv, h1, h2, h3⟩ := hh
      exact ⟨_, _, v, sv, rfl, rfl, h1, h2, h3⟩
    rw [cond_if] at h
    split at h <;> try (cases h; done)
    rename_i hbt
    cases op <;> simp only [reduceCtorEq] at h <;> first
      | (cases h; done)
      | exact ⟨_, _, by first | (simp only [binV, hbt, if_true, binB]; done) | (simp only [binV, hbt, if_true, binB]; rfl), rfl, h⟩
  · cases h

def pickS (t : Bool) (a b : SV) : Option SV :=
  match a, b with
  | .int k x, .int k' y => if k = k' then some (.int k (bif t then x else y)) else none
  | .str x, .str y => some (.str (bif t then x else y))
  | .bool x, .bool y => some (.bool (bif t then x else y))
  | _, _ => none
theorem pickS_v {t : Bool} {a b v : SV} (h : pickS t a b = some v) : v = (if t then a else b) ∧ a.cp = true ∧ b.cp = true := by
  unfold pickS at h
  split at h
  · split at h
    · rename_i hk; subst hk; cases h; cases t <;> exact ⟨rfl, rfl, rfl⟩
    · cases h
  · cases h; cases t <;> exact ⟨rfl, rfl, rfl⟩
  · cases h; cases t <;> exact ⟨rfl, rfl, rfl⟩
  · cases h

def scal : SV → Option (List SV)
  | .agg cs => some cs
  | .lit (.agg a) => some (a.toList.map SV.ofC)
  | _ => none
def eqS : List Nat → List SV → List SV → Option Bool
  | [], [], [] => some true
  | k :: ks, x :: xs, y :: ys => match eqS ks xs ys with
    | some b => match k, x, y with
      | 0, .int j a, .int j' a' => if j = j' then some ((a == a') && b) else none
      | 1, .str a, .str a' => some ((a == a') && b)
      | 2, .bool a, .bool a' => some ((a == a') && b)
      | _, _, _ => none
    | none => none
  | _, _, _ => none
theorem eqS_v : ∀ {ks : List Nat} {xs ys : List SV} {b : Bool}, eqS ks xs ys = some b → ∃ l1 l2, V.litL.go (vl xs) = some l1 ∧ V.litL.go (vl ys) = some l2 ∧ eqvL ks l1 l2 = some b
  | [], [], [], b, h => by simp only [eqS] at h; cases h; exact ⟨[], [], rfl, rfl, rfl⟩
  | k :: ks, x :: xs, y :: ys, b, h => by
    simp only [eqS] at h
    split at h <;> try (cases h; done)
    rename_i b' hb
    obtain ⟨l1, l2, h1, h2, h3⟩ := eqS_v hb
    split at h
    · split at h <;> try (cases h; done)
      rename_i hj; subst hj; cases h
      exact ⟨_, _, by simp only [SV.v.go, SV.v, V.litL.go]; rw [h1]; rfl, by simp only [SV.v.go, SV.v, V.litL.go]; rw [h2]; rfl, by simp only [eqvL, eqv, if_true, h3]⟩
    · cases h
      exact ⟨_, _, by simp only [SV.v.go, SV.v, V.litL.go]; rw [h1]; rfl, by simp only [SV.v.go, SV.v, V.litL.go]; rw [h2]; rfl, by simp only [eqvL, eqv, h3, ba_toList']⟩
    · cases h
      exact ⟨_, _, by simp only [SV.v.go, SV.v, V.litL.go]; rw [h1]; rfl, by simp only [SV.v.go, SV.v, V.litL.go]; rw [h2]; rfl, by simp only [eqvL, eqv, h3]⟩
    · cases h
  | [], [], _ :: _, _, h => by simp [eqS] at h
  | [], _ :: _, _, _, h => by simp [eqS] at h
  | _ :: _, [], _, _, h => by simp [eqS] at h
  | _ :: _, _ :: _, [], _, h => by simp [eqS] at h
theorem ofC_lits : ∀ l : List Value, V.litL.go (vl (l.map SV.ofC)) = some l
  | [] => rfl
  | v :: l => by simp only [List.map_cons, SV.v.go, ofC_v, V.litL.go]; rw [ofC_lits l]; rfl
theorem scal_v {v : SV} {cs : List SV} (h : scal v = some cs) {l : List Value} (hl : V.litL.go (vl cs) = some l) : v.v.litL = some l := by
  unfold scal at h
  split at h
  · cases h; exact hl
  · cases h
    rw [ofC_lits] at hl; cases hl; rfl
  · cases h

def bndK (n dflt : Nat) (o : Option SV) (k : Nat → Option R) : Option R :=
  match o with
  | none => k dflt
  | some (.int _ z) => if 0 ≤ z ∧ z ≤ n then k z.toNat else none
  | _ => none
theorem bndK_v {n dflt : Nat} {ts : TSt} {o : Option XO} {k : Nat → Option R} (h : bndK n dflt (o.map ts.val) k = some r0) : ∃ m, bnd n dflt (o.map ts.enc.val) = some m ∧ k m = some r0 := by
  cases o with
  | none => exact ⟨_, rfl, h⟩
  | some x =>
    simp only [Option.map_some, bndK] at h
    split at h
    · rename_i he; cases he
    · rename_i k1 z he
      split at h
      · rename_i hc
        refine ⟨_, ?_, h⟩
        simp only [Option.map_some, enc_val, Option.some.inj he, SV.v, bnd]
        rw [if_pos hc]
      · cases h
    · cases h

def asL (e : ET) : SV → Option (Bool × List e.den)
  | .sl o e' l => match cvL e' e l with
    | some l' => some (o, l')
    | none => none
  | .nil o n => if n = e.wid then some (o, []) else none
  | _ => none
theorem asL_v {e : ET} {s : SV} {o : Bool} {l : List e.den} (h : asL e s = some (o, l)) : s.v = .sl o e.wid (l.map e.enc) := by
  unfold asL at h
  split at h
  · split at h
    · rename_i l' hl
      cases h
      have := cvL_enc hl
      simp only [SV.v, this.1, this.2]
    · cases h
  · split at h
    · rename_i he; subst he; cases h; rfl
    · cases h
  · cases h

def putT (acc : List SV) (off : Nat) (cs : List SV) : List SV := acc.take off ++ (cs ++ acc.drop (off + cs.length))
theorem putT_v (acc : List SV) (off : Nat) (cs : List SV) : vl (putT acc off cs) = putAt (vl acc) off (vl cs) := by
  simp only [putT, putAt, vl_app, vl_take, vl_drop, vl_len]
def bldK : List Prt → TSt → List SV → (List SUpd → List SV → Option R) → Option R
  | [], _, acc, k => k [] acc
  | p :: l, ts, acc, k => match (ts.val p.x).cells with
    | some cs => bif Nat.beq cs.length p.n && Nat.ble (p.off + p.n) acc.length then
        bif (ts.val p.x).cp then bldK l ts (putT acc p.off cs) k
        else match p.x with
          | .t q => bldK l (ts.put q .hole) (putT acc p.off cs) fun us acc' => k (⟨q, .pu, .hole⟩ :: us) acc'
          | _ => none
      else none
    | none => none
theorem bldK_v : ∀ {ps : List Prt} {ts : TSt} {acc : List SV} {k : List SUpd → List SV → Option R}, bldK ps ts acc k = some r0 → ∃ us acc', bldU ps ts.enc (vl acc) = some (us.map SUpd.enc, vl acc') ∧ k us acc' = some r0
  | [], ts, acc, k, h => ⟨[], acc, rfl, h⟩
  | p :: l, ts, acc, k, h => by
    simp only [bldK] at h
    split at h <;> try (cases h; done)
    rename_i cs hcs
    rw [cond_if] at h
    split at h <;> try (cases h; done)
    rename_i hc
    simp only [Bool.and_eq_true] at hc
    have h1 := Nat.eq_of_beq_eq_true hc.1
    have h2 := Nat.le_of_ble_eq_true hc.2
    have e1 : (ts.enc.val p.x).cells = some (vl cs) := by rw [enc_val]; exact SV.cells_v hcs
    have e2 : (vl cs).length = p.n ∧ p.off + p.n ≤ (vl acc).length := by rw [vl_len, vl_len]; exact ⟨h1, h2⟩
    rw [cond_if] at h
    split at h
    · rename_i hcp
      obtain ⟨us, acc', h3, h4⟩ := bldK_v h
      refine ⟨us, acc', ?_, h4⟩
      simp only [bldU, e1]
      rw [if_pos e2, if_pos (by rw [enc_val, SV.cp_v]; exact hcp), ← putT_v]; exact h3
    · rename_i hcp
      split at h <;> try (cases h; done)
      rename_i q hq
      obtain ⟨us, acc', h3, h4⟩ := bldK_v h
      refine ⟨_, acc', ?_, h4⟩
      simp only [bldU, e1]
      rw [if_pos e2, if_neg (by rw [enc_val, SV.cp_v]; exact hcp)]
      simp only [hq]
      have : ts.enc.put q V.hole = (ts.put q .hole).enc := (enc_put ts q .hole).symm
      rw [this, ← putT_v, h3]; rfl

def chunkS (e : ET) : Nat → List SV → Option (List e.den)
  | 0, _ => some []
  | k + 1, l => match pk e (l.take e.wid), chunkS e k (l.drop e.wid) with
    | some x, some r => some (x :: r)
    | _, _ => none
theorem chunkS_v {e : ET} : ∀ {k : Nat} {l : List SV} {r : List e.den}, chunkS e k l = some r → chunk e.wid k (vl l) = r.map e.enc
  | 0, _, _, h => by simp only [chunkS] at h; cases h; rfl
  | k + 1, l, r, h => by
    simp only [chunkS] at h
    split at h <;> try (cases h; done)
    rename_i x r' h1 h2
    cases h
    simp only [chunk, List.map_cons, ← vl_take, ← vl_drop, pk_v h1, chunkS_v h2]
def tmpOf : XO → Option Nat
  | .t r => some r
  | _ => none
def dropU : XO → List SUpd
  | .t r => [⟨r, .pu, .hole⟩]
  | _ => []
theorem dropU_v (x : XO) : (dropU x).map SUpd.enc = (match x with | .t r => [⟨r, .pu, .hole⟩] | _ => []) := by cases x <;> rfl

def aliasS (d ver hv : Nat) : Nat → List SV → List SV
  | _, [] => []
  | k, c :: cs => (bif c.cp then c else .al ⟨false, d, [(0, k)], ver, hv⟩) :: aliasS d ver hv (k + 1) cs
theorem aliasS_v {d ver hv : Nat} : ∀ (k : Nat) (cs : List SV), vl (aliasS d ver hv k cs) = aliasC d ver hv k (vl cs)
  | _, [] => rfl
  | k, c :: cs => by
    simp only [aliasS, SV.v.go, aliasC, SV.cp_v, aliasS_v (k + 1) cs]
    cases c.cp <;> rfl
def rf1S (r ver hv : Nat) : SV → SV
  | .al y => match y.path with
    | [(i, j)] => bif !y.ptr && (Nat.beq y.root r && (Nat.beq i 0 && (Nat.beq y.ver ver && Nat.beq y.hv hv))) then .al ⟨false, r, [(0, j)], ver, hv + 1⟩ else .hole
    | _ => .hole
  | c => bif c.cp && c.na then c else .hole
theorem rf1S_v {r ver hv : Nat} (c : SV) : (rf1S r ver hv c).v = rf1 r ver hv c.v := by
  have hc : ∀ c : SV, (bif c.cp && c.na then c else SV.hole).v = if c.v.cp = true then if c.v.na = true then c.v else V.hole else V.hole := fun c => by
    rw [SV.cp_v, SV.na_v]
    cases c.cp <;> cases c.na <;> rfl
  cases c with
  | al y =>
    obtain ⟨yp, yr, ypa, yv, yh⟩ := y
    match ypa with
    | [] => simp [rf1S, rf1, SV.v]
    | [(i, j)] =>
      simp only [rf1S, rf1, SV.v, cond_if, List.headD_cons]
      by_cases e : (!yp && (Nat.beq yr r && (Nat.beq i 0 && (Nat.beq yv ver && Nat.beq yh hv)))) = true
      · rw [if_pos e]
        simp only [Bool.and_eq_true, Bool.not_eq_true'] at e
        obtain ⟨b1, b2, b3, b4, b5⟩ := e
        have b2 := Nat.eq_of_beq_eq_true b2
        have b3 := Nat.eq_of_beq_eq_true b3
        have b4 := Nat.eq_of_beq_eq_true b4
        have b5 := Nat.eq_of_beq_eq_true b5
        subst b1 b2 b3 b4 b5
        simp [SV.v]
      · rw [if_neg e]
        have hne : ¬ ((⟨yp, yr, [(i, j)], yv, yh⟩ : Al) = ⟨false, r, [(0, j)], ver, hv⟩) := fun h => by
          simp only [Al.mk.injEq, List.cons.injEq, Prod.mk.injEq, and_true] at h
          obtain ⟨rfl, rfl, rfl, rfl, rfl⟩ := h
          exact e (by simp)
        exact (if_neg hne).symm
    | _ :: _ :: _ => simp [rf1S, rf1, SV.v]
  | int k n => exact hc (.int k n)
  | str s => exact hc (.str s)
  | bool b => exact hc (.bool b)
  | lit v => exact hc (.lit v)
  | hole => exact hc (.hole)
  | rp cs => exact hc (.rp cs)
  | box cs => exact hc (.box cs)
  | sl o e l => exact hc (.sl o e l)
  | nil o e => exact hc (.nil o e)
  | bld T E s => exact hc (.bld T E s)
  | tl x n => exact hc (.tl x n)
  | agg cs => exact hc (.agg cs)
  | tup cs => exact hc (.tup cs)
  | fn g cs => exact hc (.fn g cs)
def rfS (r ver hv : Nat) : List SV → List SV
  | [] => []
  | c :: cs => rf1S r ver hv c :: rfS r ver hv cs
theorem rfS_v {r ver hv : Nat} : ∀ (cs : List SV), vl (rfS r ver hv cs) = rfC r ver hv (vl cs)
  | [] => rfl
  | c :: cs => by
    simp only [rfS, SV.v.go, rfC, List.map_cons, rf1S_v]
    congr 1
    exact rfS_v cs
def allLeafS : List SV → Bool
  | [] => true
  | c :: cs => c.v.leafOk && allLeafS cs
theorem allLeafS_v : ∀ cs : List SV, allLeafS cs = (vl cs).all (·.leafOk)
  | [] => rfl
  | c :: cs => by simp [allLeafS, SV.v.go, allLeafS_v cs]
/-- An appending by itself. -/
def stepAS (x : XOp) (e : ET) (ts : TSt) (k : List SUpd → Option R) : Option R :=
  match x with
  | .app d n by_ x y => bif Nat.beq e.wid n && (e.cp && (e.lf && XO.ne x y)) then match asL e (ts.val x) with
    | some (true, l) => ts.svK y fun s => match asL e s with
      | some (_, l2) => if (l.length + l2.length) * by_ ≤ 140737488355328 ∧ l.length + l2.length ≤ 9223372036854775807 then k (dropU x ++ [⟨d, .pu, .sl true e (l ++ l2)⟩]) else none
      | none => none
    | _ => none
    else none
  | .appT d n by_ x q => bif Nat.beq e.wid n && (e.lf && XO.ne x (.t q)) then match asL e (ts.val x) with
    | some (true, l) => match asL e (ts.get q).v with
      | some (true, l2) => if (l.length + l2.length) * by_ ≤ 140737488355328 ∧ l.length + l2.length ≤ 9223372036854775807 then k (dropU x ++ [⟨q, .pu, .hole⟩, ⟨d, .pu, .sl true e (l ++ l2)⟩]) else none
      | _ => none
    | _ => none
    else none
  | _ => none
def ownSl : SV → Bool
  | .sl true _ _ | .nil true _ => true
  | _ => false
def stepS (x : XOp) (e : ET) (ts : TSt) (k : List SUpd → Option R) : Option R :=
  match x with
  | .mv d x => bif (ts.val x).cp then k [⟨d, .pu, ts.val x⟩] else none
  | .mvT d r => k [⟨r, .pu, .hole⟩, ⟨d, .pu, (ts.get r).v⟩]
  | .mvA d r => match ts.name r with
    | some v0 => k [⟨d, .pu, v0⟩]
    | none => bif (ts.get r).v.cp then k [⟨d, .pu, (ts.get r).v⟩] else none
  | .mvP d r => k [⟨d, .pu, .al ⟨true, r, [], 0, 0⟩⟩]
  | .mvZ d r => k [⟨r, .pu, .hole⟩, ⟨r, .pu, (ts.get r).v.frz⟩, ⟨d, .pu, (ts.get r).v.frz⟩]
  | .pick d c a b => match ts.val c with
    | .bool t => match pickS t (ts.val a) (ts.val b) with
      | some v => k [⟨d, .pu, v⟩]
      | none => bif t then (bif (ts.val a).cp then k [⟨d, .pu, ts.val a⟩] else none) else (bif (ts.val b).cp then k [⟨d, .pu, ts.val b⟩] else none)
    | _ => none
  | .bin d bt op x y => binK bt op (ts.val x) (ts.val y) fun v => k [⟨d, .pu, v⟩]
  | .un d op x => match op, ts.val x with
    | .not, .bool b => k [⟨d, .pu, .bool (!b)⟩]
    | .neg, .int kk n => k [⟨d, .pu, .int kk (kk.wrap (0 - n))⟩]
    | _, _ => none
  | .allocB d T E => k [⟨d, .pu, .bld T E []⟩]
  | .alloc d zs => match zsS zs with
    | some l => k [⟨d, .pu, .box l⟩]
    | none => none
  | .box d x => match (ts.val x).cells with
    | some cs => bif (ts.val x).cp then k [⟨d, .pu, .box cs⟩] else none
    | none => none
  | .boxZ d x => match (ts.val x).cells with
    | some cs => bif (ts.val x).cp then k [⟨d, .pu, .box cs⟩, ⟨d, .pu, .hole⟩, ⟨d, .pu, .rp (SV.frz.go cs)⟩] else none
    | none => none
  | .mkF d g ys => bif SV.cp.go (ys.map ts.nmv) then k [⟨d, .pu, .fn g (ys.map ts.nmv)⟩] else none
  | .boxT d r => match (ts.get r).v.cells with
    | some cs => k [⟨r, .pu, .hole⟩, ⟨d, .pu, .box cs⟩]
    | none => none
  | .boxL d r => match (ts.get r).v with
    | .agg cs => bif !Nat.beq d r && allLeafS cs then k [⟨r, .mo, .hole⟩, ⟨d, .pu, .box cs⟩, ⟨r, .mo, .agg (aliasS d ((ts.get d).ver + 1) ((ts.get d).hv + 1) 0 cs)⟩] else none
    | _ => none
  | .fadr d x off => match ts.val x with
    | .rp cs => k [⟨d, .pu, .rp (cs.drop off)⟩]
    | _ => match ts.res x with
      | some (r, p) => k [⟨d, .pu, ts.ptrAt r (padd p off)⟩]
      | none => none
  | .iadr d n x i => match ts.val i with
    | .int _ kk => if 0 ≤ kk then match ts.val x with
      | .sl false e l => bif Nat.beq e.wid n then (l[kk.toNat]?).bind fun y => k [⟨d, .pu, .rp (unp e y)⟩] else none
      | .nil false _ => none
      | _ => match ts.resH x with
        | some (r, p) => ts.slK r p fun s => match s with
          | .sl true e l => bif Nat.beq e.wid n then if kk.toNat < l.length then k [⟨d, .pu, ts.ptrAt r (p ++ [(kk.toNat, 0)])⟩] else none else none
          | _ => none
        | none => none
      else none
    | _ => none
  | .load d x n g => match ts.val x with
    | .rp cs => bif Nat.ble n cs.length && SV.cp.go (cs.take n) then k [⟨d, .pu, mkS g (cs.take n)⟩] else none
    | _ => match ts.res x with
      | some (r, p) => getK n (ts.get r).v p fun cs => k [⟨d, .pu, mkS g (ts.view r p 0 cs)⟩]
      | none => none
  | .loadT d x n g => match ts.res x with
    | some (r, p) => bif Nat.beq d r then none else updK n (fun cs => some (cs.map SV.rest)) (ts.get r).v p fun cs v' => k [⟨r, .qu, v'⟩, ⟨d, .pu, mkS g cs⟩]
    | none => none
  | .loadZ d x n g => match ts.res x with
    | some (r, p) => bif Nat.beq d r then none else updK n (fun cs => some (SV.frz.go cs)) (ts.get r).v p fun cs v' => k [⟨r, .mo, v'⟩, ⟨d, .pu, mkS g (SV.frz.go cs)⟩]
    | none => none
  | .store x y n => match ts.res x with
    | some (r, p) => match (ts.val y).cells with
      | some cs' => bif (ts.val y).cp then updK n (fun _ => some cs') (ts.get r).v p fun _ v' => k [⟨r, .mo, v'⟩] else none
      | none => none
    | none => none
  | .storeT x q n => match ts.res x with
    | some (r, p) => bif Nat.beq q r then none else match (ts.get q).v.cells with
      | some cs' => updK n (fun _ => some cs') (ts.get r).v p fun _ v' => k [⟨q, .pu, .hole⟩, ⟨r, .mo, v'⟩]
      | none => none
    | none => none
  | .nilck d x => match ts.val x with
    | .rp cs => k [⟨d, .pu, .rp cs⟩]
    | .fn g cs => bif SV.cp.go cs then k [⟨d, .pu, .fn g cs⟩] else none
    | _ => match ts.res x with
      | some (r, p) => k [⟨d, .pu, ts.ptrAt r p⟩]
      | none => none
  | .lenS d x => match ts.val x with
    | .str s => k [⟨d, .pu, .int .i64 s.length⟩]
    | _ => none
  | .lenB d x => match ts.val x with
    | .sl _ _ l => k [⟨d, .pu, .int .i64 l.length⟩]
    | .nil _ _ => k [⟨d, .pu, .int .i64 0⟩]
    | _ => match ts.resH x with
      | some (r, p) => ts.slK r p fun s => match s with
        | .sl _ _ l => k [⟨d, .pu, .int .i64 l.length⟩]
        | .nil _ _ => k [⟨d, .pu, .int .i64 0⟩]
        | _ => none
      | none => none
  | .ext d x i => match ts.val x with
    | .tup cs => match nthS cs i with
      | some c => bif c.cp then k [⟨d, .pu, c⟩] else none
      | none => none
    | _ => none
  | .extT d r i => match (ts.get r).v with
    | .tup cs => match nthS cs i with
      | some c => bif Nat.beq d r then none else k [⟨r, .pu, .hole⟩, ⟨r, .pu, .tup (cs.set i .hole)⟩, ⟨d, .pu, c⟩]
      | none => none
    | _ => none
  | .eqA d neg ks x y => match scal (ts.val x), scal (ts.val y) with
    | some l1, some l2 => match eqS ks l1 l2 with
      | some b => k [⟨d, .pu, .bool (bif neg then !b else b)⟩]
      | none => none
    | _, _ => none
  | .cvi d kk kk' x => match ts.val x with
    | .int k1 z => if k1 = kk' then k [⟨d, .pu, .int kk (kk.wrap z)⟩] else none
    | _ => none
  | .s2b d x => none
  | .b2s d x => ts.svK x fun s => match asL (.int .u8) s with
    | some (_, l) => k [⟨d, .pu, .str (l.map fun n => UInt8.ofNat n.toNat)⟩]
    | none => none
  | .idx d x i => match ts.val x, ts.val i with
    | .str s, .int _ z => if 0 ≤ z then if z < s.length then k [⟨d, .pu, .int .u8 (s.getD z.toNat 0).toNat⟩] else none else none
    | _, _ => none
  | .slcS d x lo hi => match ts.val x with
    | .str s => bndK s.length s.length (hi.map ts.val) fun h => bndK h 0 (lo.map ts.val) fun l => k [⟨d, .pu, .str ((s.take h).drop l)⟩]
    | _ => none
  | .cutS d n x lo hi => match ts.val x with
    | .sl false e s => bif Nat.beq e.wid n then bndK s.length s.length (hi.map ts.val) fun h => bndK h 0 (lo.map ts.val) fun l => k [⟨d, .pu, .sl false e ((s.take h).drop l)⟩] else none
    | _ => none
  | .cutT d n q lo hi => match (ts.get q).v with
    | .sl true e s => bif Nat.beq e.wid n then bndK s.length s.length (hi.map ts.val) fun h => bndK h 0 (lo.map ts.val) fun l => k [⟨q, .pu, .hole⟩, ⟨d, .pu, .sl true e ((s.take h).drop l)⟩] else none
    | _ => none
  | .app d n by_ x y => bif Nat.beq e.wid n && (e.cp && (e.lf && XO.ne x y)) then match asL e (ts.val x) with
    | some (true, l) => ts.svK y fun s => match asL e s with
      | some (_, l2) => if (l.length + l2.length) * by_ ≤ 140737488355328 ∧ l.length + l2.length ≤ 9223372036854775807 then k (dropU x ++ [⟨d, .pu, .sl true e (l ++ l2)⟩]) else none
      | none => none
    | _ => none
    else none
  | .appT d n by_ x q => bif Nat.beq e.wid n && (e.lf && XO.ne x (.t q)) then match asL e (ts.val x) with
    | some (true, l) => match asL e (ts.get q).v with
      | some (true, l2) => if (l.length + l2.length) * by_ ≤ 140737488355328 ∧ l.length + l2.length ≤ 9223372036854775807 then k (dropU x ++ [⟨q, .pu, .hole⟩, ⟨d, .pu, .sl true e (l ++ l2)⟩]) else none
      | _ => none
    | _ => none
    else none
  | .storeZ x q n =>
    match ((ts.put q .hole).put q (ts.get q).v.frz).res x with
    | some (r, p) => match (ts.get q).v.frz.cells with
      | some cs' => bif (ts.get q).v.frz.cp then updK n (fun _ => some cs') (((ts.put q .hole).put q (ts.get q).v.frz).get r).v p fun _ v' => k [⟨q, .pu, .hole⟩, ⟨q, .pu, (ts.get q).v.frz⟩, ⟨r, .mo, v'⟩] else none
      | none => none
    | none => none
  | .appC d n by_ q y tk => match ts.resH (.t q) with
    | some (r, []) => bif Nat.beq r q then none else bif ownSl (ts.get r).v then stepAS (innApp d n by_ q y tk) e ((ts.put r .hole).put q (ts.get r).v) fun us => k (⟨r, .pu, .hole⟩ :: ⟨q, .pu, (ts.get r).v⟩ :: us) else none
    | some (r, i :: p) => bif Nat.beq r q then none else updK 1 (fun _ => some [.hole]) (ts.get r).v (i :: p) fun cs v' => match cs with
      | [c] => bif ownSl c then stepAS (innApp d n by_ q y tk) e ((ts.tk r v').put q c) fun us => k (⟨r, .qu, v'⟩ :: ⟨q, .pu, c⟩ :: us) else none
      | _ => none
    | _ => none
  | .bld d zs ps => match zsS zs with
    | some l => bldK ps ts l fun us acc => k (us ++ [⟨d, .pu, .agg acc⟩])
    | none => none
  | .bldZ d kk zs ps => match zsS (List.replicate kk zs).flatten with
    | some l => bif Nat.beq e.wid zs.length then bldK ps ts l fun us acc => match chunkS e kk acc with
        | some l => k (us ++ [⟨d, .pu, .sl true e l⟩, ⟨d, .pu, .hole⟩, ⟨d, .pu, (SV.sl true e l).frz⟩])
        | none => none
      else none
    | none => none
  | .bldS d kk zs ps => match zsS (List.replicate kk zs).flatten with
    | some l => bif Nat.beq e.wid zs.length then bldK ps ts l fun us acc => match chunkS e kk acc with
        | some l => k (us ++ [⟨d, .pu, .sl true e l⟩])
        | none => none
      else none
    | none => none
  | .mkS d by_ zs x y => match ts.val x, ts.val y with
    | .int _ l, .int _ l2 => match zsS zs with
      | some z => match pk e z with
        | some z => if 0 ≤ l ∧ l2 = l ∧ by_ * l.toNat ≤ 140737488355328 ∧ l ≤ 9223372036854775807 then k [⟨d, .pu, .sl true e (List.replicate l.toNat z)⟩] else none
        | none => none
      | none => none
    | _, _ => none
  | .tlS d n x lo => match ts.resH x with
    | some (r, []) => match (ts.get r).v with
      | .sl true e l => bif Nat.beq e.wid n then bndK l.length 0 (lo.map ts.val) fun m => if m < l.length then k [⟨d, .pu, .tl ⟨true, r, [(m, 0)], (ts.get r).ver, (ts.get r).hv⟩ (l.length - m)⟩] else none else none
      | _ => none
    | _ => none
  | .clr x zs => match ts.val x with
    | .tl z m => bif ts.good z && z.ptr then match z.path with
      | [(l, j)] => match (ts.get z.root).v with
        | .sl true e es => match zsS zs with
          | some zl => match pk e zl with
            | some z0 => bif Nat.beq j 0 && Nat.beq e.wid zs.length then if l + m = es.length ∧ 0 < m then k [⟨z.root, .mo, .sl true e (es.take l ++ List.replicate m z0)⟩] else none else none
            | none => none
          | none => none
        | _ => none
      | _ => none
      else none
    | _ => none
  | .mvN d n => k [⟨d, .pu, .nil true n⟩]
  | .dead => none
  | .stN x kk n => match ts.res x with
    | some (r, p) => bif Nat.beq n 1 then updK n (fun _ => some [.nil true kk]) (ts.get r).v p fun _ v' => k [⟨r, .mo, v'⟩] else none
    | none => none
  | .fld d x off n g => match ts.val x with
    | .agg cs => bif Nat.ble (off + n) cs.length && SV.cp.go ((cs.drop off).take n) then k [⟨d, .pu, mkS g ((cs.drop off).take n)⟩] else none
    | _ => none
  | .fldT d r off n g => match (ts.get r).v with
    | .agg cs => bif Nat.ble (off + n) cs.length then k [⟨r, .pu, .hole⟩, ⟨d, .pu, mkS g ((cs.drop off).take n)⟩] else none
    | _ => none
  | .mm d mx x y => match ts.val x, ts.val y with
    | .int kk a, .int _ b => k [⟨d, .pu, .int kk (bif mx then (if b > a then b else a) else (if b < a then b else a))⟩]
    | _, _ => none
  | _ => none
end
end Go.Proofs.YtainknkfjekngaaDoor.Vm
