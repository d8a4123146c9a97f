/- The code as the machine reads it, and what it owes. -/
import Derived.Test.YtainknkfjekngaaDoorVm9h
namespace Go.Proofs.YtainknkfjekngaaDoor.Vm
open Go
set_option linter.unusedVariables false
set_option linter.unusedSimpArgs false

/-- How a value of its own is used: copied or named; taken; given up. -/
inductive Md where
  | a | t | z | v
  | m (j : Nat)
  | g (j r : Nat)
  | p (j r : Nat)
  | gs (j r s : Nat)
  | ms (j : Nat)
  | ps (j r : Nat)
  | m2 (j : Nat)
  | tl
  deriving DecidableEq

inductive XOp where
  | mv (d : Nat) (x : XO)
  | mvT (d r : Nat)
  | mvA (d r : Nat)
  | mvZ (d r : Nat)
  | mvP (d r : Nat)
  | pick (d : Nat) (c a b : XO)
  | bin (d : Nat) (bt : Bool) (op : BinOp) (x y : XO)
  | un (d : Nat) (op : UnOp) (x : XO)
  | alloc (d : Nat) (zs : List V)
  | allocB (d T E : Nat)
  | box (d : Nat) (x : XO)
  | boxT (d r : Nat)
  | boxL (d r : Nat)
  | fadr (d : Nat) (x : XO) (off : Nat)
  | iadr (d n : Nat) (x i : XO)
  | load (d : Nat) (x : XO) (n : Nat) (g : Bool)
  | loadT (d : Nat) (x : XO) (n : Nat) (g : Bool)
  | loadZ (d : Nat) (x : XO) (n : Nat) (g : Bool)
  | store (x y : XO) (n : Nat)
  | storeT (x : XO) (q n : Nat)
  | nilck (d : Nat) (x : XO)
  | lenS (d : Nat) (x : XO)
  | lenB (d : Nat) (x : XO)
  | ext (d : Nat) (x : XO) (i : Nat)
  | extT (d r i : Nat)
  | callB (d f : Nat) (ys : List (XO × Nat))
  | callS (d f : Nat) (ys : List XO)
  | eqA (d : Nat) (neg : Bool) (ks : List Nat) (x y : XO)
  | nilq (d : Nat) (neg : Bool) (x : XO)
  | cvi (d : Nat) (k k' : IntKind) (x : XO)
  | b2s (d : Nat) (x : XO)
  | s2b (d : Nat) (x : XO)
  | idx (d : Nat) (x i : XO)
  | slcS (d : Nat) (x : XO) (lo hi : Option XO)
  | cutS (d n : Nat) (x : XO) (lo hi : Option XO)
  | cutT (d n q : Nat) (lo hi : Option XO)
  | app (d n by_ : Nat) (x y : XO)
  | bld (d : Nat) (zs : List V) (ps : List Prt)
  | bldS (d k : Nat) (zs : List V) (ps : List Prt)
  | bldZ (d k : Nat) (zs : List V) (ps : List Prt)
  | mkS (d by_ : Nat) (zs : List V) (x y : XO)
  | mvN (d n : Nat)
  | stN (x : XO) (k n : Nat)
  | appT (d n by_ : Nat) (x : XO) (q : Nat)
  | fld (d : Nat) (x : XO) (off n : Nat) (g : Bool)
  | fldT (d r off n : Nat) (g : Bool)
  | mm (d : Nat) (mx : Bool) (x y : XO)
  | callM (d f : Nat) (l1 : List (XO × Nat)) (k : MK) (l2 : List (XO × Nat))
  | boxZ (d : Nat) (x : XO)
  | mkF (d g : Nat) (ys : List XO)
  | callF (d : Nat) (x : XO) (ys : List XO)
  | appC (d n by_ q : Nat) (y : XO) (tk : Bool)
  | storeZ (x : XO) (q n : Nat)
  | tlS (d n : Nat) (x : XO) (lo : Option XO)
  | clr (x : XO) (zs : List V)
  | dead

def callBX (P : Program) (d f : Nat) (ys : List (XO × Nat)) (st : St) (K : St → Prop) : Prop :=
  V.na.go (ys.map fun y => st.bv y.2 y.1) = true ∧ ∃ v, Ok P f (ys.map fun y => st.bv y.2 y.1) (fun r _ => r = v) ∧ v.noShr = true ∧ K (st.put d v)
def callSX (P : Program) (d f : Nat) (ys : List XO) (st : St) (K : St → Prop) : Prop :=
  V.cp.go (ys.map st.val) = true ∧ V.na.go (ys.map st.val) = true ∧ ∃ v, Ok P f (ys.map st.val) (fun r _ => r = v) ∧ K (st.put d v)

def callFX (P : Program) (d : Nat) (x : XO) (ys : List XO) (st : St) (K : St → Prop) : Prop :=
  ∃ g cs, st.val x = .fn g cs ∧ entB P g = true ∧ V.cp.go (ys.map st.val) = true ∧ V.cp.go cs = true ∧ V.na.go (ys.map st.val ++ cs) = true ∧ ∃ v, Ok P g (ys.map st.val ++ cs) (fun r _ => r = v) ∧ K (st.put d v)
def callMT (P : Program) (d f : Nat) (l1 : List (XO × Nat)) (q : Nat) (l2 : List (XO × Nat)) (st : St) (K : St → Prop) : Prop :=
  d ≠ q ∧ V.na.go (l1.map fun y => (st.put q .hole).bv y.2 y.1) = true ∧ V.na.go (l2.map fun y => (st.put q .hole).bv y.2 y.1) = true ∧ (st q).v.na = true ∧
      ∃ R, Ok P f (l1.map (fun y => (st.put q .hole).bv y.2 y.1) ++ (st q).v :: l2.map (fun y => (st.put q .hole).bv y.2 y.1)) R ∧
        ∀ res outs, R res outs → res.noShr = true ∧ (K ((st.put q .hole).put d res) ∨ ∃ ov, outs[l1.length]? = some ov ∧ ov.noShr = true ∧ ov.plc = (st q).v.plc ∧ K ((st.mod q ov).put d res))
def callMTS (P : Program) (d f : Nat) (l1 : List XO) (q : Nat) (l2 : List XO) (st : St) (K : St → Prop) : Prop :=
  d ≠ q ∧ V.cp.go (l1.map st.val) = true ∧ V.cp.go (l2.map st.val) = true ∧ V.na.go (l1.map st.val ++ (st q).v :: l2.map st.val) = true ∧
      ∃ R, Ok P f (l1.map st.val ++ (st q).v :: l2.map st.val) R ∧
        ∀ res outs, R res outs → K ((st.put q .hole).put d res) ∨ ∃ ov, outs[l1.length]? = some ov ∧ ov.plc = (st q).v.plc ∧ K ((st.mod q ov).put d res)
/-- An operand that names the whole of what a temporary owns. -/
def St.whole (st : St) (y : XO) (r : Nat) : Prop := (st.res y = some (r, [(0, 0)]) ∧ ∃ cs, (st r).v = .box cs) ∨ st.resH y = some (r, [])
def callM2 (P : Program) (d f : Nat) (l1 : List (XO × Nat)) (q q2 : Nat) (l2 : List (XO × Nat)) (st : St) (K : St → Prop) : Prop :=
  (d ≠ q ∧ d ≠ q2 ∧ q ≠ q2) ∧ V.na.go (l1.map fun y => ((st.put q .hole).put q2 .hole).bv y.2 y.1) = true ∧ V.na.go (l2.map fun y => ((st.put q .hole).put q2 .hole).bv y.2 y.1) = true ∧ (st q).v.na = true ∧ (st q2).v.na = true ∧
      ∃ R, Ok P f (l1.map (fun y => ((st.put q .hole).put q2 .hole).bv y.2 y.1) ++ (st q).v :: (l2.map (fun y => ((st.put q .hole).put q2 .hole).bv y.2 y.1) ++ [(st q2).v])) R ∧
        ∀ res outs, R res outs → res.noShr = true ∧ (K (((st.put q .hole).put q2 .hole).put d res) ∨ ∃ ov, outs[l1.length]? = some ov ∧ ov.noShr = true ∧ ov.plc = (st q).v.plc ∧ K (((st.put q2 .hole).mod q ov).put d res))
def callMX (P : Program) (d f : Nat) (l1 : List (XO × Nat)) (k : MK) (l2 : List (XO × Nat)) (st : St) (K : St → Prop) : Prop :=
  match k with
  | .tmp q => callMT P d f l1 q l2 st K
  | .ptr y q => st.whole y q ∧ callMT P d f l1 q l2 st K
  | .tmpS q => callMTS P d f (l1.map (·.1)) q (l2.map (·.1)) st K
  | .ptrS y q => st.whole y q ∧ callMTS P d f (l1.map (·.1)) q (l2.map (·.1)) st K
  | .tmp2 q q2 => callM2 P d f l1 q q2 l2 st K
  | .agg y r => d ≠ r ∧ ∃ n g p cs vs as, (st r).v.getR n p = some cs ∧ (g = false → n = 1) ∧ vs.length = n ∧ st.val y = mkV g vs ∧ V.cp.go vs = true ∧ innV r p (st r).ver (st r).hv 0 cs vs = some as ∧ V.na.go cs = true ∧
      V.na.go (l1.map fun y => (st.put r .hole).bv y.2 y.1) = true ∧ V.na.go (l2.map fun y => (st.put r .hole).bv y.2 y.1) = true ∧
      ∃ R, Ok P f (l1.map (fun y => (st.put r .hole).bv y.2 y.1) ++ mkV g as :: l2.map (fun y => (st.put r .hole).bv y.2 y.1)) R ∧
        ∀ res outs, R res outs → res.noShr = true ∧ ∃ os, outs[l1.length]? = some (mkV g os) ∧ V.noShr.go os = true ∧ os.length = n ∧ K ((st.mod r ((st r).v.setR p (bakV cs os))).put d res)
  | .aggS y r s => d ≠ r ∧ s ≠ r ∧ s ≠ d ∧ ∃ ss bs, (st s).v = .agg ss ∧ (st r).v = .box bs ∧ ∃ n g p cs vs as, (st r).v.getR n p = some cs ∧ (g = false → n = 1) ∧ vs.length = n ∧ st.val y = mkV g vs ∧ V.cp.go vs = true ∧ innV r p (st r).ver (st r).hv 0 cs vs = some as ∧ V.na.go cs = true ∧
      V.na.go (l1.map fun y => (st.put r .hole).bv y.2 y.1) = true ∧ V.na.go (l2.map fun y => (st.put r .hole).bv y.2 y.1) = true ∧
      ∃ R, Ok P f (l1.map (fun y => (st.put r .hole).bv y.2 y.1) ++ mkV g as :: l2.map (fun y => (st.put r .hole).bv y.2 y.1)) R ∧
        ∀ res outs, R res outs → res.noShr = true ∧ ∃ os, outs[l1.length]? = some (mkV g os) ∧ V.noShr.go os = true ∧ os.length = n ∧ K (((st.mod r ((st r).v.setR p (bakV cs os))).put d res).mod s (.agg (rfC r (st r).ver (st r).hv ss)))

def XO.ne : XO → XO → Bool
  | .t a, .t b => decide (a ≠ b)
  | _, _ => true
def XO.drop (x : XO) (st : St) : St :=
  match x with
  | .t r => st.put r .hole
  | _ => st

/-- A turn of one temporary: given anew, or what it owns turned. -/
inductive UK where
  | pu | mo | qu
  deriving DecidableEq
structure Upd where
  t : Nat
  put : UK
  v : V
def St.upd (st : St) (u : Upd) : St := match u.put with
  | .pu => st.put u.t u.v
  | .mo => st.mod u.t u.v
  | .qu => st.tk u.t u.v
def St.upds : St → List Upd → St
  | st, [] => st
  | st, u :: l => St.upds (st.upd u) l

/-- A step that is taken, if it can be. -/
def onU (o : Option (List Upd)) (st : St) (K : St → Prop) : Prop :=
  match o with
  | some us => K (st.upds us)
  | none => False

/-- What an appending turns. -/
def stepA : XOp → St → Option (List Upd)
  | .app d n by_ x y, st => match st.val x with
    | .sl true m es => match st.sv y with
      | some (m2, es2) => if m = n then if m2 = n then if esLeaf es2 = true then if (es.length + es2.length) * by_ ≤ 140737488355328 then if es.length + es2.length ≤ 9223372036854775807 then
          if esCp es2 = true then if XO.ne x y = true then some ((match x with | .t r => [⟨r, .pu, .hole⟩] | _ => []) ++ [⟨d, .pu, .sl true n (es ++ es2)⟩]) else none else none
        else none else none else none else none else none
      | none => none
    | _ => none
  | .appT d n by_ x q, st => match st.val x with
    | .sl true m es => match (st q).v with
      | .sl true m2 es2 => if m = n then if m2 = n then if esLeaf es2 = true then if (es.length + es2.length) * by_ ≤ 140737488355328 then if es.length + es2.length ≤ 9223372036854775807 then
          if XO.ne x (.t q) = true then some ((match x with | .t r => [⟨r, .pu, .hole⟩] | _ => []) ++ [⟨q, .pu, .hole⟩, ⟨d, .pu, .sl true n (es ++ es2)⟩]) else none
        else none else none else none else none else none
      | _ => none
    | _ => none
  | _, _ => none
def innApp (d n by_ q : Nat) (y : XO) (tk : Bool) : XOp :=
  match tk, y with
  | true, .t q2 => .appT d n by_ (.t q) q2
  | _, y => .app d n by_ (.t q) y
def appCU (d n by_ q : Nat) (y : XO) (tk : Bool) (st : St) : Option (List Upd) :=
  match st.clm q with
  | some (r, b, v', c) => match stepA (innApp d n by_ q y tk) ((st.umod r b v').put q c) with
    | some us => some (⟨r, if b then .pu else .qu, v'⟩ :: ⟨q, .pu, c⟩ :: us)
    | none => none
  | none => none

/-- What is stored is given up first. -/
def stZU (x : XO) (q n : Nat) (st0 : St) : Option (List Upd) :=
  let st := (st0.put q .hole).put q (st0 q).v.frz
  match st.res x with
  | some (r, p) => match (st r).v.getR n p with
    | some _ => match (st.val (.t q)).cells with
      | some cs' => if (st.val (.t q)).cp = true then if cs'.length = n then some [⟨q, .pu, .hole⟩, ⟨q, .pu, (st0 q).v.frz⟩, ⟨r, .mo, (st r).v.setR p cs'⟩] else none else none
      | none => none
    | none => none
  | none => none

/-- The rest of an own list. -/
def tlU (d n : Nat) (x : XO) (lo : Option XO) (st : St) : Option (List Upd) :=
  match st.resH x with
  | some (r, []) => match (st r).v with
    | .sl true m es => if m = n then match bnd es.length 0 (lo.map st.val) with
      | some l => if l < es.length then some [⟨d, .pu, .tl ⟨true, r, [(l, 0)], (st r).ver, (st r).hv⟩ (es.length - l)⟩] else none
      | none => none
      else none
    | _ => none
  | _ => none
/-- It is cleared. -/
def clrU (x : XO) (zs : List V) (st : St) : Option (List Upd) :=
  match st.val x with
  | .tl z m => if st.good z = true then if z.ptr = true then match z.path with
    | [(l, k)] => match (st z.root).v with
      | .sl true n es => if k = 0 then if n = zs.length then if l + m = es.length then if 0 < m then some [⟨z.root, .mo, .sl true n (es.take l ++ List.replicate m zs)⟩] else none else none else none else none
      | _ => none
    | _ => none
    else none else none
  | _ => none

def stepK (P : Program) : XOp → St → (St → Prop) → Prop
  | .mv d x, st, K => (st.val x).cp = true ∧ K (st.put d (st.val x))
  | .mvT d r, st, K => K ((st.put r .hole).put d (st r).v)
  | .mvA d r, st, K => match st.name r with
    | some V0 => K (st.put d V0)
    | none => (st r).v.cp = true ∧ K (st.put d (st r).v)
  | .mvP d r, st, K => K (st.put d (nameP r))
  | .mvZ d r, st, K => K (((st.put r .hole).put r (st r).v.frz).put d (st r).v.frz)
  | .pick d c a b, st, K => match st.val c with
    | .lit (.bool t) => (if t then (st.val a).cp else (st.val b).cp) = true ∧ K (st.put d (if t then st.val a else st.val b))
    | _ => False
  | .bin d bt op x y, st, K => match st.val x, st.val y with
    | .lit a, .lit b => match binV bt op a b with
      | some v => K (st.put d (.lit v))
      | none => False
    | _, _ => False
  | .un d op x, st, K => match st.val x with
    | .lit a => match unV op a with
      | some v => K (st.put d (.lit v))
      | none => False
    | _ => False
  | .alloc d zs, st, K => K (st.put d (.box zs))
  | .allocB d T E, st, K => K (st.put d (.bld T E []))
  | .box d x, st, K => match (st.val x).cells with
    | some cs => (st.val x).cp = true ∧ K (st.put d (.box cs))
    | none => False
  | .boxT d r, st, K => match (st r).v.cells with
    | some cs => K ((st.put r .hole).put d (.box cs))
    | none => False
  | .boxL d r, st, K => match (st r).v with
    | .agg cs => d ≠ r ∧ cs.all (·.leafOk) = true ∧ K (((st.mod r .hole).put d (.box cs)).mod r (.agg (aliasC d ((st d).ver + 1) ((st d).hv + 1) 0 cs)))
    | _ => False
  | .fadr d x off, st, K => match st.val x with
    | .rp cs => K (st.put d (.rp (cs.drop off)))
    | _ => match st.res x with
      | some (r, p) => K (st.put d (st.ptrAt r (padd p off)))
      | none => False
  | .iadr d n x i, st, K => match st.val i with
    | .lit (.int _ k) => 0 ≤ k ∧ match st.val x with
      | .sl false m es => m = n ∧ ∃ e, es[k.toNat]? = some e ∧ K (st.put d (.rp e))
      | _ => match st.resH x with
        | some (r, p) => match st.slAt r p with
          | some (.sl true m es) => m = n ∧ k.toNat < es.length ∧ K (st.put d (st.ptrAt r (p ++ [(k.toNat, 0)])))
          | _ => False
        | none => False
    | _ => False
  | .load d x n g, st, K => match st.val x with
    | .rp cs => n ≤ cs.length ∧ V.cp.go (cs.take n) = true ∧ K (st.put d (mkV g (cs.take n)))
    | _ => match st.res x with
      | some (r, p) => match (st r).v.getR n p with
        | some cs => K (st.put d (mkV g (st.view r p 0 cs)))
        | none => False
      | none => False
  | .loadT d x n g, st, K => match st.res x with
    | some (r, p) => d ≠ r ∧ match (st r).v.getR n p with
      | some cs => K ((st.tk r ((st r).v.setR p (cs.map V.rest))).put d (mkV g cs))
      | none => False
    | none => False
  | .loadZ d x n g, st, K => match st.res x with
    | some (r, p) => d ≠ r ∧ match (st r).v.getR n p with
      | some cs => K ((st.mod r ((st r).v.setR p (V.frz.go cs))).put d (mkV g (V.frz.go cs)))
      | none => False
    | none => False
  | .store x y n, st, K => match st.res x with
    | some (r, p) => match (st r).v.getR n p, (st.val y).cells with
      | some _, some cs' => (st.val y).cp = true ∧ cs'.length = n ∧ K (st.mod r ((st r).v.setR p cs'))
      | _, _ => False
    | none => False
  | .storeT x q n, st, K => match st.res x with
    | some (r, p) => q ≠ r ∧ match (st r).v.getR n p, (st q).v.cells with
      | some _, some cs' => cs'.length = n ∧ K ((st.put q .hole).mod r ((st r).v.setR p cs'))
      | _, _ => False
    | none => False
  | .nilck d x, st, K => match st.val x with
    | .rp cs => K (st.put d (.rp cs))
    | .fn g cs => V.cp.go cs = true ∧ K (st.put d (.fn g cs))
    | _ => match st.res x with
      | some (r, p) => K (st.put d (st.ptrAt r p))
      | none => False
  | .lenS d x, st, K => match st.val x with
    | .lit (.string s) => K (st.put d (.lit (.int .i64 s.size)))
    | _ => False
  | .lenB d x, st, K => match st.val x with
    | .sl _ _ es => K (st.put d (.lit (.int .i64 es.length)))
    | _ => match st.resH x with
      | some (r, p) => match st.slAt r p with
        | some (.sl _ _ es) => K (st.put d (.lit (.int .i64 es.length)))
        | _ => False
      | none => False
  | .ext d x i, st, K => match st.val x with
    | .tup cs => match cs[i]? with
      | some c => c.cp = true ∧ K (st.put d c)
      | none => False
    | _ => False
  | .extT d r i, st, K => match (st r).v with
    | .tup cs => match cs[i]? with
      | some c => d ≠ r ∧ K (((st.put r .hole).put r (.tup (cs.set i .hole))).put d c)
      | none => False
    | _ => False
  | .callB d f ys, st, K => callBX P d f ys st K
  | .callS d f ys, st, K => callSX P d f ys st K
  | .callM d f l1 k l2, st, K => callMX P d f l1 k l2 st K
  | .callF d x ys, st, K => callFX P d x ys st K
  | .boxZ d x, st, K => match (st.val x).cells with
    | some cs => (st.val x).cp = true ∧ K (((st.put d (.box cs)).put d .hole).put d (V.box cs).frz)
    | none => False
  | .mkF d g ys, st, K => V.cp.go (ys.map st.nmv) = true ∧ K (st.put d (.fn g (ys.map st.nmv)))
  | .eqA d neg ks x y, st, K => match (st.val x).litL, (st.val y).litL with
    | some l1, some l2 => match eqvL ks l1 l2 with
      | some b => K (st.put d (.lit (.bool (if neg then !b else b))))
      | none => False
    | _, _ => False
  | .nilq d neg x, st, K => match st.sv x with
    | some (_, es) => K (st.put d (.lit (.bool neg))) ∧ (es = [] → K (st.put d (.lit (.bool !neg))))
    | none => False
  | .cvi d k k' x, st, K => match st.val x with
    | .lit (.int k1 z) => k1 = k' ∧ K (st.put d (.lit (.int k (k.wrap z))))
    | _ => False
  | .s2b d x, st, K => False
  | .b2s d x, st, K => match st.sv x with
    | some (n, es) => n = 1 ∧ match byteL es with
      | some l => K (st.put d (.lit (.string (ba l))))
      | none => False
    | none => False
  | .idx d x i, st, K => match st.val x, st.val i with
    | .lit (.string s), .lit (.int _ z) => (0 ≤ z ∧ z < s.size) ∧ K (st.put d (.lit (.int .u8 (s.toList.getD z.toNat 0).toNat)))
    | _, _ => False
  | .slcS d x lo hi, st, K => match st.val x with
    | .lit (.string s) => match bnd s.size s.size (hi.map st.val) with
      | some h => match bnd h 0 (lo.map st.val) with
        | some l => K (st.put d (.lit (.string (s.extract l h))))
        | none => False
      | none => False
    | _ => False
  | .cutS d n x lo hi, st, K => match st.val x with
    | .sl false m es => m = n ∧ match bnd es.length es.length (hi.map st.val) with
      | some h => match bnd h 0 (lo.map st.val) with
        | some l => K (st.put d (.sl false n ((es.take h).drop l)))
        | none => False
      | none => False
    | _ => False
  | .cutT d n q lo hi, st, K => match (st q).v with
    | .sl true m es => m = n ∧ match bnd es.length es.length (hi.map st.val) with
      | some h => match bnd h 0 (lo.map st.val) with
        | some l => K ((st.put q .hole).put d (.sl true n ((es.take h).drop l)))
        | none => False
      | none => False
    | _ => False
  | .app d n by_ x y, st, K => match st.val x with
    | .sl true m es => match st.sv y with
      | some (m2, es2) => m = n ∧ m2 = n ∧ esLeaf es2 = true ∧ (es.length + es2.length) * by_ ≤ 140737488355328 ∧ es.length + es2.length ≤ 9223372036854775807 ∧
          esCp es2 = true ∧ XO.ne x y = true ∧ K ((x.drop st).put d (.sl true n (es ++ es2)))
      | _ => False
    | _ => False
  | .appT d n by_ x q, st, K => match st.val x with
    | .sl true m es => match (st q).v with
      | .sl true m2 es2 => m = n ∧ m2 = n ∧ esLeaf es2 = true ∧ (es.length + es2.length) * by_ ≤ 140737488355328 ∧ es.length + es2.length ≤ 9223372036854775807 ∧
          XO.ne x (.t q) = true ∧ K (((x.drop st).put q .hole).put d (.sl true n (es ++ es2)))
      | _ => False
    | _ => False
  | .storeZ x q n, st, K => onU (stZU x q n st) st K
  | .tlS d n x lo, st, K => onU (tlU d n x lo st) st K
  | .clr x zs, st, K => onU (clrU x zs st) st K
  | .dead, _, _ => False
  | .appC d n by_ q y tk, st, K => onU (appCU d n by_ q y tk st) st K
  | .mvN d n, st, K => K (st.put d (.sl true n []))
  | .stN x k n, st, K => match st.res x with
    | some (r, p) => match (st r).v.getR n p with
      | some _ => n = 1 ∧ K (st.mod r ((st r).v.setR p [.sl true k []]))
      | none => False
    | none => False
  | .fld d x off n g, st, K => match st.val x with
    | .agg cs => off + n ≤ cs.length ∧ V.cp.go ((cs.drop off).take n) = true ∧ K (st.put d (mkV g ((cs.drop off).take n)))
    | _ => False
  | .fldT d r off n g, st, K => match (st r).v with
    | .agg cs => off + n ≤ cs.length ∧ K ((st.put r .hole).put d (mkV g ((cs.drop off).take n)))
    | _ => False
  | .mm d mx x y, st, K => match st.val x with
    | .lit (.int k a) => match st.val y with
      | .lit (.int k' b) => K (st.put d (.lit (.int k (if mx then (if b > a then b else a) else (if b < a then b else a)))))
      | _ => False
    | _ => False
  | .bld d zs ps, st, K => match bldF ps st zs with
    | some (st', acc) => K (st'.put d (.agg acc))
    | none => False
  | .bldZ d k zs ps, st, K => match bldF ps st (List.replicate k zs).flatten with
    | some (st', acc) => K (((st'.put d (.sl true zs.length (chunk zs.length k acc))).put d .hole).put d (V.sl true zs.length (chunk zs.length k acc)).frz)
    | none => False
  | .bldS d k zs ps, st, K => match bldF ps st (List.replicate k zs).flatten with
    | some (st', acc) => K (st'.put d (.sl true zs.length (chunk zs.length k acc)))
    | none => False
  | .mkS d by_ zs x y, st, K => match st.val x, st.val y with
    | .lit (.int _ l), .lit (.int _ l2) => 0 ≤ l ∧ l2 = l ∧ by_ * l.toNat ≤ 140737488355328 ∧ l ≤ 9223372036854775807 ∧ K (st.put d (.sl true zs.length (List.replicate l.toNat zs)))
    | _, _ => False

theorem upds_append (st : St) (a b : List Upd) : st.upds (a ++ b) = (st.upds a).upds b := by
  induction a generalizing st with
  | nil => rfl
  | cons u a ih => exact ih _

def bldU : List Prt → St → List V → Option (List Upd × List V)
  | [], _, acc => some ([], acc)
  | p :: l, st, acc => match (st.val p.x).cells with
    | some cs => if cs.length = p.n ∧ p.off + p.n ≤ acc.length then
        if (st.val p.x).cp = true then bldU l st (putAt acc p.off cs)
        else match p.x with
          | .t q => match bldU l (st.put q .hole) (putAt acc p.off cs) with
            | some (us, acc') => some (⟨q, .pu, .hole⟩ :: us, acc')
            | none => none
          | _ => none
      else none
    | none => none

/-- What a step turns, where it hangs on no callee. -/
def stepU : XOp → St → Option (List Upd)
  | .mv d x, st => if (st.val x).cp = true then some [⟨d, .pu, (st.val x)⟩] else none
  | .mvT d r, st => some [⟨r, .pu, .hole⟩, ⟨d, .pu, (st r).v⟩]
  | .mvA d r, st => match st.name r with
    | some V0 => some [⟨d, .pu, V0⟩]
    | none => if (st r).v.cp = true then some [⟨d, .pu, (st r).v⟩] else none
  | .mvP d r, _ => some [⟨d, .pu, nameP r⟩]
  | .mvZ d r, st => some [⟨r, .pu, .hole⟩, ⟨r, .pu, (st r).v.frz⟩, ⟨d, .pu, (st r).v.frz⟩]
  | .pick d c a b, st => match st.val c with
    | .lit (.bool t) => if (if t then (st.val a).cp else (st.val b).cp) = true then some [⟨d, .pu, (if t then st.val a else st.val b)⟩] else none
    | _ => none
  | .bin d bt op x y, st => match st.val x, st.val y with
    | .lit a, .lit b => match binV bt op a b with
      | some v => some [⟨d, .pu, (.lit v)⟩]
      | none => none
    | _, _ => none
  | .un d op x, st => match st.val x with
    | .lit a => match unV op a with
      | some v => some [⟨d, .pu, (.lit v)⟩]
      | none => none
    | _ => none
  | .alloc d zs, st => some [⟨d, .pu, (.box zs)⟩]
  | .allocB d T E, st => some [⟨d, .pu, (.bld T E [])⟩]
  | .box d x, st => match (st.val x).cells with
    | some cs => if (st.val x).cp = true then some [⟨d, .pu, (.box cs)⟩] else none
    | none => none
  | .boxT d r, st => match (st r).v.cells with
    | some cs => some [⟨r, .pu, .hole⟩, ⟨d, .pu, .box cs⟩]
    | none => none
  | .boxL d r, st => match (st r).v with
    | .agg cs => if d ≠ r then if cs.all (·.leafOk) = true then some [⟨r, .mo, .hole⟩, ⟨d, .pu, .box cs⟩, ⟨r, .mo, .agg (aliasC d ((st d).ver + 1) ((st d).hv + 1) 0 cs)⟩] else none else none
    | _ => none
  | .fadr d x off, st => match st.val x with
    | .rp cs => some [⟨d, .pu, (.rp (cs.drop off))⟩]
    | _ => match st.res x with
      | some (r, p) => some [⟨d, .pu, (st.ptrAt r (padd p off))⟩]
      | none => none
  | .iadr d n x i, st => match st.val i with
    | .lit (.int _ k) => if 0 ≤ k then match st.val x with
      | .sl false m es => if m = n then match es[k.toNat]? with
        | some e => some [⟨d, .pu, (.rp e)⟩]
        | none => none
        else none
      | _ => match st.resH x with
        | some (r, p) => match st.slAt r p with
          | some (.sl true m es) => if m = n then if k.toNat < es.length then some [⟨d, .pu, (st.ptrAt r (p ++ [(k.toNat, 0)]))⟩] else none else none
          | _ => none
        | none => none
      else none
    | _ => none
  | .load d x n g, st => match st.val x with
    | .rp cs => if n ≤ cs.length then if V.cp.go (cs.take n) = true then some [⟨d, .pu, (mkV g (cs.take n))⟩] else none else none
    | _ => match st.res x with
      | some (r, p) => match (st r).v.getR n p with
        | some cs => some [⟨d, .pu, (mkV g (st.view r p 0 cs))⟩]
        | none => none
      | none => none
  | .loadT d x n g, st => match st.res x with
    | some (r, p) => if d ≠ r then match (st r).v.getR n p with
      | some cs => some [⟨r, .qu, (st r).v.setR p (cs.map V.rest)⟩, ⟨d, .pu, mkV g cs⟩]
      | none => none
      else none
    | none => none
  | .loadZ d x n g, st => match st.res x with
    | some (r, p) => if d ≠ r then match (st r).v.getR n p with
      | some cs => some [⟨r, .mo, (st r).v.setR p (V.frz.go cs)⟩, ⟨d, .pu, mkV g (V.frz.go cs)⟩]
      | none => none
      else none
    | none => none
  | .store x y n, st => match st.res x with
    | some (r, p) => match (st r).v.getR n p with
      | some _ => match (st.val y).cells with
        | some cs' => if (st.val y).cp = true then if cs'.length = n then some [⟨r, .mo, (st r).v.setR p cs'⟩] else none else none
        | none => none
      | none => none
    | none => none
  | .storeT x q n, st => match st.res x with
    | some (r, p) => if q ≠ r then match (st r).v.getR n p with
      | some _ => match (st q).v.cells with
        | some cs' => if cs'.length = n then some [⟨q, .pu, .hole⟩, ⟨r, .mo, (st r).v.setR p cs'⟩] else none
        | none => none
      | none => none
      else none
    | none => none
  | .nilck d x, st => match st.val x with
    | .rp cs => some [⟨d, .pu, (.rp cs)⟩]
    | .fn g cs => if V.cp.go cs = true then some [⟨d, .pu, (.fn g cs)⟩] else none
    | _ => match st.res x with
      | some (r, p) => some [⟨d, .pu, (st.ptrAt r p)⟩]
      | none => none
  | .lenS d x, st => match st.val x with
    | .lit (.string s) => some [⟨d, .pu, (.lit (.int .i64 s.size))⟩]
    | _ => none
  | .lenB d x, st => match st.val x with
    | .sl _ _ es => some [⟨d, .pu, (.lit (.int .i64 es.length))⟩]
    | _ => match st.resH x with
      | some (r, p) => match st.slAt r p with
        | some (.sl _ _ es) => some [⟨d, .pu, (.lit (.int .i64 es.length))⟩]
        | _ => none
      | none => none
  | .ext d x i, st => match st.val x with
    | .tup cs => match cs[i]? with
      | some c => if c.cp = true then some [⟨d, .pu, c⟩] else none
      | none => none
    | _ => none
  | .extT d r i, st => match (st r).v with
    | .tup cs => match cs[i]? with
      | some c => if d ≠ r then some [⟨r, .pu, .hole⟩, ⟨r, .pu, .tup (cs.set i .hole)⟩, ⟨d, .pu, c⟩] else none
      | none => none
    | _ => none
  | .eqA d neg ks x y, st => match (st.val x).litL with
    | some l1 => match (st.val y).litL with
      | some l2 => match eqvL ks l1 l2 with
        | some b => some [⟨d, .pu, (.lit (.bool (if neg then !b else b)))⟩]
        | none => none
      | none => none
    | none => none
  | .cvi d k k' x, st => match st.val x with
    | .lit (.int k1 z) => if k1 = k' then some [⟨d, .pu, (.lit (.int k (k.wrap z)))⟩] else none
    | _ => none
  | .s2b d x, st => none
  | .b2s d x, st => match st.sv x with
    | some (n, es) => if n = 1 then match byteL es with
      | some l => some [⟨d, .pu, (.lit (.string (ba l)))⟩]
      | none => none
      else none
    | none => none
  | .idx d x i, st => match st.val x with
    | .lit (.string s) => match st.val i with
      | .lit (.int _ z) => if 0 ≤ z then if z < s.size then some [⟨d, .pu, (.lit (.int .u8 (s.toList.getD z.toNat 0).toNat))⟩] else none else none
      | _ => none
    | _ => none
  | .slcS d x lo hi, st => match st.val x with
    | .lit (.string s) => match bnd s.size s.size (hi.map st.val) with
      | some h => match bnd h 0 (lo.map st.val) with
        | some l => some [⟨d, .pu, (.lit (.string (s.extract l h)))⟩]
        | none => none
      | none => none
    | _ => none
  | .cutS d n x lo hi, st => match st.val x with
    | .sl false m es => if m = n then match bnd es.length es.length (hi.map st.val) with
      | some h => match bnd h 0 (lo.map st.val) with
        | some l => some [⟨d, .pu, (.sl false n ((es.take h).drop l))⟩]
        | none => none
      | none => none
      else none
    | _ => none
  | .cutT d n q lo hi, st => match (st q).v with
    | .sl true m es => if m = n then match bnd es.length es.length (hi.map st.val) with
      | some h => match bnd h 0 (lo.map st.val) with
        | some l => some [⟨q, .pu, .hole⟩, ⟨d, .pu, .sl true n ((es.take h).drop l)⟩]
        | none => none
      | none => none
      else none
    | _ => none
  | .app d n by_ x y, st => match st.val x with
    | .sl true m es => match st.sv y with
      | some (m2, es2) => if m = n then if m2 = n then if esLeaf es2 = true then if (es.length + es2.length) * by_ ≤ 140737488355328 then if es.length + es2.length ≤ 9223372036854775807 then
          if esCp es2 = true then if XO.ne x y = true then some ((match x with | .t r => [⟨r, .pu, .hole⟩] | _ => []) ++ [⟨d, .pu, .sl true n (es ++ es2)⟩]) else none else none
        else none else none else none else none else none
      | none => none
    | _ => none
  | .appT d n by_ x q, st => match st.val x with
    | .sl true m es => match (st q).v with
      | .sl true m2 es2 => if m = n then if m2 = n then if esLeaf es2 = true then if (es.length + es2.length) * by_ ≤ 140737488355328 then if es.length + es2.length ≤ 9223372036854775807 then
          if XO.ne x (.t q) = true then some ((match x with | .t r => [⟨r, .pu, .hole⟩] | _ => []) ++ [⟨q, .pu, .hole⟩, ⟨d, .pu, .sl true n (es ++ es2)⟩]) else none
        else none else none else none else none else none
      | _ => none
    | _ => none
  | .appC d n by_ q y tk, st => appCU d n by_ q y tk st
  | .storeZ x q n, st => stZU x q n st
  | .tlS d n x lo, st => tlU d n x lo st
  | .clr x zs, st => clrU x zs st
  | .dead, _ => none
  | .mvN d n, st => some [⟨d, .pu, .sl true n []⟩]
  | .stN x k n, st => match st.res x with
    | some (r, p) => match (st r).v.getR n p with
      | some _ => if n = 1 then some [⟨r, .mo, (st r).v.setR p [.sl true k []]⟩] else none
      | none => none
    | none => none
  | .fld d x off n g, st => match st.val x with
    | .agg cs => if off + n ≤ cs.length then if V.cp.go ((cs.drop off).take n) = true then some [⟨d, .pu, mkV g ((cs.drop off).take n)⟩] else none else none
    | _ => none
  | .fldT d r off n g, st => match (st r).v with
    | .agg cs => if off + n ≤ cs.length then some [⟨r, .pu, .hole⟩, ⟨d, .pu, mkV g ((cs.drop off).take n)⟩] else none
    | _ => none
  | .mm d mx x y, st => match st.val x with
    | .lit (.int k a) => match st.val y with
      | .lit (.int k' b) => some [⟨d, .pu, .lit (.int k (if mx then (if b > a then b else a) else (if b < a then b else a)))⟩]
      | _ => none
    | _ => none
  | .bld d zs ps, st => match bldU ps st zs with
    | some (us, acc) => some (us ++ [⟨d, .pu, .agg acc⟩])
    | none => none
  | .bldZ d k zs ps, st => match bldU ps st (List.replicate k zs).flatten with
    | some (us, acc) => some (us ++ [⟨d, .pu, .sl true zs.length (chunk zs.length k acc)⟩, ⟨d, .pu, .hole⟩, ⟨d, .pu, (V.sl true zs.length (chunk zs.length k acc)).frz⟩])
    | none => none
  | .bldS d k zs ps, st => match bldU ps st (List.replicate k zs).flatten with
    | some (us, acc) => some (us ++ [⟨d, .pu, .sl true zs.length (chunk zs.length k acc)⟩])
    | none => none
  | .mkS d by_ zs x y, st => match st.val x with
    | .lit (.int _ l) => match st.val y with
      | .lit (.int _ l2) => if 0 ≤ l then if l2 = l then if by_ * l.toNat ≤ 140737488355328 then if l ≤ 9223372036854775807 then some [⟨d, .pu, (.sl true zs.length (List.replicate l.toNat zs))⟩] else none else none else none else none
      | _ => none
    | _ => none
  | .nilq d neg x, st => match st.sv x with
    | some (_, e :: _) => some [⟨d, .pu, (.lit (.bool neg))⟩]
    | _ => none
  | .callB _ _ _, _ => none
  | .callS _ _ _, _ => none
  | .callM _ _ _ _ _, _ => none
  | .callF _ _ _, _ => none
  | .boxZ d x, st => match (st.val x).cells with
    | some cs => if (st.val x).cp = true then some [⟨d, .pu, .box cs⟩, ⟨d, .pu, .hole⟩, ⟨d, .pu, (V.box cs).frz⟩] else none
    | none => none
  | .mkF d g ys, st => if V.cp.go (ys.map st.nmv) = true then some [⟨d, .pu, .fn g (ys.map st.nmv)⟩] else none


theorem bldU_spec : ∀ (ps : List Prt) (st : St) (acc : List V), bldF ps st acc = (bldU ps st acc).map fun x => (st.upds x.1, x.2)
  | [], st, acc => rfl
  | p :: l, st, acc => by
    simp only [bldF, bldU]
    cases (st.val p.x).cells with
    | none => rfl
    | some cs =>
      simp only []
      by_cases h1 : cs.length = p.n ∧ p.off + p.n ≤ acc.length
      · rw [if_pos h1, if_pos h1]
        by_cases h2 : (st.val p.x).cp = true
        · rw [if_pos h2, if_pos h2]; exact bldU_spec l st _
        · rw [if_neg h2, if_neg h2]
          cases p.x with
          | t q =>
            simp only []
            rw [bldU_spec l (st.put q .hole) _]
            cases bldU l (st.put q .hole) (putAt acc p.off cs) <;> rfl
          | _ => rfl
      · rw [if_neg h1, if_neg h1]; rfl

/-- A slice held against nil, that may be empty: either way. -/
def nilX (d : Nat) (neg : Bool) (x : XO) (st : St) (K : St → Prop) : Prop :=
  match st.sv x with
  | some (_, es) => K (st.put d (.lit (.bool neg))) ∧ (es = [] → K (st.put d (.lit (.bool !neg))))
  | none => False

def stepX (P : Program) : XOp → St → (St → Prop) → Prop
  | .callB d f ys, st, K => callBX P d f ys st K
  | .callS d f ys, st, K => callSX P d f ys st K
  | .callM d f l1 k l2, st, K => callMX P d f l1 k l2 st K
  | .callF d x ys, st, K => callFX P d x ys st K
  | .nilq d neg x, st, K => nilX d neg x st K
  | x, st, K => onU (stepU x st) st K

theorem stepX_K {P : Program} {x : XOp} {st : St} {K : St → Prop} (h : stepX P x st K) : stepK P x st K := by
  cases x with
  | callB d f ys => exact h
  | callS d f ys => exact h
  | callM d f l1 k l2 => exact h
  | callF d x ys => exact h
  | nilq d neg x => exact h
  | appC d n by_ q y tk => exact h
  | storeZ x q n => exact h
  | tlS d n x lo => exact h
  | clr x zs => exact h
  | dead => exact h
  | app d n by_ x q =>
    simp only [stepX, stepU] at h
    simp only [stepK]
    split at h <;> try exact h.elim
    rename_i m es h1
    split at h <;> try exact h.elim
    rename_i m2 es2 h2
    split at h <;> try exact h.elim
    split at h <;> try exact h.elim
    split at h <;> try exact h.elim
    split at h <;> try exact h.elim
    split at h <;> try exact h.elim
    split at h <;> try exact h.elim
    split at h <;> try exact h.elim
    rw [h2]
    refine ⟨by assumption, by assumption, by assumption, by assumption, by assumption, by assumption, by assumption, by cases x <;> exact h⟩
  | appT d n by_ x q =>
    simp only [stepX, stepU] at h
    simp only [stepK]
    split at h <;> try exact h.elim
    rename_i m es h1
    split at h <;> try exact h.elim
    rename_i m2 es2 h2
    split at h <;> try exact h.elim
    split at h <;> try exact h.elim
    split at h <;> try exact h.elim
    split at h <;> try exact h.elim
    split at h <;> try exact h.elim
    split at h <;> try exact h.elim
    refine ⟨by assumption, by assumption, by assumption, by assumption, by assumption, by assumption, by cases x <;> exact h⟩
  | bld d zs ps =>
    simp only [stepX, stepU] at h
    simp only [stepK, bldU_spec]
    split at h
    · rename_i us acc hb
      simp only [hb, Option.map_some]
      simp only [onU, upds_append] at h; exact h
    · exact h.elim
  | bldZ d k zs ps =>
    simp only [stepX, stepU] at h
    simp only [stepK, bldU_spec]
    split at h
    · rename_i us acc hb
      simp only [hb, Option.map_some]
      simp only [onU, upds_append] at h; exact h
    · exact h.elim
  | bldS d k zs ps =>
    simp only [stepX, stepU] at h
    simp only [stepK, bldU_spec]
    split at h
    · rename_i us acc hb
      simp only [hb, Option.map_some]
      simp only [onU, upds_append] at h; exact h
    · exact h.elim
  | _ =>
    simp only [stepX, stepU] at h
    simp only [stepK]
    repeat' (first | exact h.elim | exact h | (split at h))
    all_goals simp_all [onU, St.upds, St.upd]

-- from the model's operations

def slk (P : Program) (T : Nat) : Nat := (slN P T).getD 0

def cOL (P : Program) : List Operand → List Nat → Option (List XO)
  | [], _ => some []
  | x :: xs, ts => match cO (slk P (ts.headD 0)) x, cOL P xs ts.tail with
    | some y, some ys => some (y :: ys)
    | _, _ => none

theorem cOL_spec {P : Program} : ∀ {l : List Operand} {ts : List Nat} {ys : List XO}, cOL P l ts = some ys → CoL l ys
  | [], _, _, h => by simp [cOL] at h; subst h; trivial
  | x :: l, ts, ys, h => by
    simp only [cOL] at h
    split at h
    · rename_i y ys' h1 h2
      cases h
      exact ⟨⟨_, h1⟩, cOL_spec h2⟩
    · cases h

/-- How many cells lie behind a pointer type. -/
def ptN (P : Program) (T : Nat) : Nat :=
  match P.underlying T with
  | some (.pointer e) => P.cellsOf e
  | _ => 0

def mLd (P : Program) (T : Nat) : Option (Nat × Bool) :=
  match isAggB P T with
  | some g => if (P.info? T).isSome = true ∧ (g = false → P.cellsOf T = 1) then some (P.cellsOf T, g) else none
  | none => none

def mEq1 (P : Program) (d : Nat) (neg : Bool) (t : Nat) (x y : Operand) : Option XOp :=
  match P.underlying t with
  | some (.slice _) => match y, cO (slk P t) x with
    | .const (.slice none 0 0), some x => some (.nilq d neg x)
    | _, _ => none
  | _ => match flatS P t, cO 0 x, cO 0 y with
    | some ks, some x, some y => some (.eqA d neg ks x y)
    | _, _, _ => none
def mEq (P : Program) (d : Nat) (op : BinOp) (t : Nat) (x y : Operand) : Option XOp :=
  match op with
  | .eql => mEq1 P d false t x y
  | .neq => mEq1 P d true t x y
  | _ => none

def mPrt (place : Nat → Option (Nat × Nat)) (k : Nat → Nat) : List (Nat × Operand) → Option (List Prt)
  | [] => some []
  | (i, x) :: l => match place i, cO (k i) x, mPrt place k l with
    | some (off, n), some y, some r => some (⟨off, n, y⟩ :: r)
    | _, _, _ => none

theorem mPrt_spec {place : Nat → Option (Nat × Nat)} {k : Nat → Nat} : ∀ {l : List (Nat × Operand)} {ps : List Prt}, mPrt place k l = some ps → PrtOk place l ps
  | [], ps, h => by simp only [mPrt, Option.some.injEq] at h; subst h; trivial
  | (i, x) :: l, ps, h => by
    simp only [mPrt] at h
    split at h
    · rename_i off n y r h1 h2 h3
      obtain rfl := Option.some.inj h
      exact ⟨h1, ⟨_, h2⟩, mPrt_spec h3⟩
    · cases h

def mB : Option Operand → Option (Option XO)
  | none => some none
  | some y => (cO 0 y).map some
theorem mB_spec {x : Option Operand} {y : Option XO} (h : mB x = some y) : CoB x y := by
  cases x with
  | none => simp only [mB, Option.some.injEq] at h; subst h; trivial
  | some x =>
    simp only [mB] at h
    obtain ⟨z, hz, rfl⟩ := Option.map_eq_some_iff.1 h
    exact hz

def mCv (P : Program) (d s t : Nat) (x : Operand) : Option XOp :=
  match P.underlying s, P.underlying t with
  | some (.int k'), some (.int k) => (cO 0 x).map (.cvi d k k')
  | some (.slice e), some .string => match P.underlying e with
    | some (.int .u8) => (cO 1 x).map (.b2s d)
    | _ => none
  | some .string, some (.slice e) => match P.underlying e with
    | some (.int .u8) => (cO 0 x).map (.s2b d)
    | _ => none
  | _, _ => none

def mSlc (P : Program) (d : Nat) (md : Md) (T : Nat) (x : Operand) (lo hi : Option Operand) : Option XOp :=
  match P.underlying T, mB lo, mB hi with
  | some .string, some lo, some hi => (cO 0 x).map fun x => .slcS d x lo hi
  | some (.slice _), some lo, some hi => match slE P T with
    | some (n, _) => match md, x with
      | .t, .tmp q => some (.cutT d n q lo hi)
      | .tl, x => (match hi with | none => (cO 0 x).map fun x => .tlS d n x lo | some _ => none)
      | _, x => (cO n x).map fun x => .cutS d n x lo hi
    | none => none
  | _, _, _ => none

def mBld (P : Program) (d T : Nat) (parts : Array (Nat × Operand)) : Option XOp :=
  match P.underlying T, zsOf P T with
  | some (.struct fs), some zs => match fPl P fs.toList with
    | some pl => (mPrt (fun i => pl[i]?) (fun i => slk P (((fs[i]?).map (·.type)).getD 0)) parts.toList).map (.bld d zs)
    | none => none
  | _, _ => none
def mBldS (P : Program) (md : Md) (d T k : Nat) (parts : Array (Nat × Operand)) : Option XOp :=
  match P.underlying T with
  | some (.slice e) => match zsOf P e with
    | some zs => if 0 < zs.length ∧ k * zs.length ≤ 2 ^ 24 then (mPrt (fun i => some (i * zs.length, zs.length)) (fun _ => slk P e) parts.toList).map (if md = .z then .bldZ d k zs else .bldS d k zs) else none
    | none => none
  | _ => none
def mMk (P : Program) (d T : Nat) (x y : Operand) : Option XOp :=
  match P.underlying T with
  | some (.slice e) => match zsOf P e, slE P T, cO 0 x, cO 0 y with
    | some zs, some (n, by_), some x, some y => if 0 < zs.length ∧ n = zs.length then some (.mkS d by_ zs x y) else none
    | _, _, _, _ => none
  | _ => none
def mApp0 (P : Program) (d : Nat) (md : Md) (args : List Operand) (ts : List Nat) : Option XOp :=
  match args, ts with
  | [x, y], [T, T'] => if T = T' then match slE P T with
    | some (n, by_) => match cO n x with
      | some x => match md, y with
        | .t, .tmp q => some (.appT d n by_ x q)
        | _, y => (cO n y).map (.app d n by_ x)
      | none => none
    | none => none
    else none
  | _, _ => none
/-- Into a slice that is named alone: it is taken from where it lies. -/
def mApp (P : Program) (N d : Nat) (md : Md) (args : List Operand) (ts : List Nat) : Option XOp :=
  match md with
  | .z => match mApp0 P d .a args ts with
    | some (.app d' n by_ (.t q) y) => if q < N then some (.appC d' n by_ q y false) else none
    | _ => none
  | .v => match mApp0 P d .t args ts with
    | some (.appT d' n by_ (.t q) q2) => if q < N then some (.appC d' n by_ q (.t q2) true) else none
    | _ => none
  | md => mApp0 P d md args ts
def mMM (d : Nat) (mx : Bool) (args : List Operand) : Option XOp :=
  match args with
  | [x, y] => match cO 0 x, cO 0 y with
    | some x, some y => some (.mm d mx x y)
    | _, _ => none
  | _ => none

/-- The types of what a function takes. -/
def prs (fn : Func) (n : Nat) : List Nat := (List.range n).map fun j => fn.params.getD j 0
theorem prs_len (fn : Func) (n : Nat) : (prs fn n).length = n := by simp [prs]
def mCall (P : Program) (d f : Nat) (md : Md) (ys : List XO) (ts : List Nat) : Option XOp :=
  match md with
  | .z => some (.callS d f ys)
  | .m j => match ys[j]? with
    | some (.t q) => if d ≠ q then some (.callM d f ((List.zipWith (fun y t => (y, ptN P t)) ys ts).take j) (.tmp q) ((List.zipWith (fun y t => (y, ptN P t)) ys ts).drop (j + 1))) else none
    | _ => none
  | .g j r => match ys[j]? with
    | some y => if d ≠ r then some (.callM d f ((List.zipWith (fun y t => (y, ptN P t)) ys ts).take j) (.agg y r) ((List.zipWith (fun y t => (y, ptN P t)) ys ts).drop (j + 1))) else none
    | none => none
  | .ms j => match ys[j]? with
    | some (.t q) => if d ≠ q then some (.callM d f ((List.zipWith (fun y t => (y, ptN P t)) ys ts).take j) (.tmpS q) ((List.zipWith (fun y t => (y, ptN P t)) ys ts).drop (j + 1))) else none
    | _ => none
  | .ps j r => match ys[j]? with
    | some y => if d ≠ r then some (.callM d f ((List.zipWith (fun y t => (y, ptN P t)) ys ts).take j) (.ptrS y r) ((List.zipWith (fun y t => (y, ptN P t)) ys ts).drop (j + 1))) else none
    | none => none
  | .gs j r s => match ys[j]? with
    | some y => if d ≠ r then some (.callM d f ((List.zipWith (fun y t => (y, ptN P t)) ys ts).take j) (.aggS y r s) ((List.zipWith (fun y t => (y, ptN P t)) ys ts).drop (j + 1))) else none
    | none => none
  | .p j r => match ys[j]? with
    | some y => if d ≠ r then some (.callM d f ((List.zipWith (fun y t => (y, ptN P t)) ys ts).take j) (.ptr y r) ((List.zipWith (fun y t => (y, ptN P t)) ys ts).drop (j + 1))) else none
    | none => none
  | .m2 j => match ys[j]?, ys.getLast? with
    | some (.t q), some (.t q2) => if d ≠ q ∧ d ≠ q2 ∧ q ≠ q2 ∧ j + 1 < ys.length then some (.callM d f ((List.zipWith (fun y t => (y, ptN P t)) ys ts).take j) (.tmp2 q q2) (((List.zipWith (fun y t => (y, ptN P t)) ys ts).drop (j + 1)).take (ys.length - (j + 2)))) else none
    | _, _ => none
  | .v => some (.callB d f (List.zipWith (fun y t => (y, match y with | .nil _ => 1 | _ => ptN P t)) ys ts))
  | _ => some (.callB d f (List.zipWith (fun y t => (y, ptN P t)) ys ts))

def mClr (P : Program) (c : Call) : Option XOp :=
  match c.callee with
  | .builtin .clear => match c.args.toList, c.argTypes.toList with
    | [x], [T] => match P.underlying T with
      | some (.slice e) => match zsOf P e, cO 0 x with
        | some zs, some x => some (.clr x zs)
        | _, _ => none
      | _ => none
    | _, _ => none
  | _ => some .dead
def mOp (P : Program) (N : Nat) (md : Md) (o : Oper) : Option XOp :=
  match o.op, o.dst with
  | .move x, some d | .assign x, some d =>
    if d < N then
      match md, x with
      | .t, .tmp r => some (.mvT d r)
      | .v, .tmp r => some (.mvA d r)
      | .z, .tmp r => if r < N then some (.mvZ d r) else none
      | .ms _, .tmp r => some (.mvP d r)
      | .a, x => (cO (slk P o.type) x).map fun y => match y with | .nil k => .mvN d k | y => .mv d y
      | _, _ => none
    else none
  | .pick c a b, some d => if d < N then
      match cO 0 c, cO 0 a, cO 0 b with
      | some c, some a, some b => some (.pick d c a b)
      | _, _, _ => none
    else none
  | .binOp op t x y _, some d => if d < N then
      match mEq P d op t x y with
      | some z => some z
      | none => match cO 0 x, cO 0 y with
        | some x, some y => some (.bin d (match P.underlying t with | some .bool => true | _ => false) op x y)
        | _, _ => none
    else none
  | .unOp op _ x, some d => if d < N then (cO 0 x).map (.un d op) else none
  | .alloc T, some d => if d < N then match bldE P T with
      | some E => some (.allocB d T E)
      | none => (zsOf P T).map (.alloc d)
    else none
  | .box T x, some d => if d < N then
      match md, x with
      | .t, .tmp r => some (.boxT d r)
      | .v, .tmp r => some (.boxL d r)
      | .z, x => (cO (slk P T) x).map (.boxZ d)
      | _, x => (cO (slk P T) x).map (.box d)
    else none
  | .fieldAddr T x f, some d => if d < N then
      match cO 0 x, fOff P T f with
      | some x, some off => some (.fadr d x off)
      | _, _ => none
    else none
  | .indexAddr T x i, some d => if d < N then
      match slN P T, cO 0 x, cO 0 i with
      | some n, some x, some i => some (.iadr d n x i)
      | _, _, _ => none
    else none
  | .load T x, some d => if d < N then
      match mLd P T, cO 0 x with
      | some (n, g), some x => some (match md with | .t => .loadT d x n g | .z => .loadZ d x n g | _ => .load d x n g)
      | _, _ => none
    else none
  | .store T x y, none => if (P.info? T).isSome = true then
      match cO 0 x with
      | some x => match md, y with
        | .t, .tmp q => some (.storeT x q (P.cellsOf T))
        | .z, .tmp q => if q < N then some (.storeZ x q (P.cellsOf T)) else none
        | _, y => (cO (slk P T) y).map fun y => match y with | .nil k => .stN x k (P.cellsOf T) | y => .store x y (P.cellsOf T)
      | none => none
    else none
  | .nilCheck x, some d => if d < N then (cO 0 x).map (.nilck d) else none
  | .extract x i, some d => if d < N then
      match md, x with
      | .t, .tmp r => if r < N then some (.extT d r i) else none
      | _, x => (cO 0 x).map fun x => .ext d x i
    else none
  | .call c, some d => if d < N then
      match c.callee with
      | .builtin .append => mApp P N d md c.args.toList c.argTypes.toList
      | .builtin .min => mMM d false c.args.toList
      | .builtin .max => mMM d true c.args.toList
      | .builtin .len => match c.args.toList, c.argTypes.toList with
        | [x], [T] => match P.underlying T, cO 0 x with
          | some .string, some x => some (.lenS d x)
          | some (.slice _), some x => some (.lenB d x)
          | _, _ => none
        | _, _ => none
      | .value (.func f) => match P.funcs[f]? with
        | some fn => if fn.body.isSome = true ∧ fn.name ≠ "runtime.NumGoroutine" ∧ c.argTypes.size = c.args.size then
            match cOL P c.args.toList c.argTypes.toList with
            | some ys => mCall P d f md ys (prs fn ys.length)
            | none => none
          else none
        | none => none
      | .value x => if c.argTypes.size = c.args.size then
          match cO 0 x, cOL P c.args.toList c.argTypes.toList with
          | some y, some ys => some (.callF d y ys)
          | _, _ => none
        else none
      | _ => none
    else none
  | .makeFunc fn first caps, some d => if d < N then
      match fn with
      | .func g => if first.size = 0 then (cOL P caps.toList []).map (.mkF d g) else none
      | _ => none
    else none
  | .convert s t x, some d => if d < N then mCv P d s t x else none
  | .field T x f, some d => if d < N then
      match md, x, fLoc P T f with
      | .t, .tmp r, some (off, n, g) => some (.fldT d r off n g)
      | _, x, some (off, n, g) => (cO 0 x).map fun x => .fld d x off n g
      | _, _, _ => none
    else none
  | .index T x i, some d => if d < N then
      match P.underlying T, cO 0 x, cO 0 i with
      | some .string, some x, some i => some (.idx d x i)
      | _, _, _ => none
    else none
  | .slice T x lo hi none, some d => if d < N then mSlc P d md T x lo hi else none
  | .build T parts, some d => if d < N then mBld P d T parts else none
  | .buildSlice T k parts, some d => if d < N then mBldS P md d T k parts else none
  | .makeSlice T x y, some d => if d < N then mMk P d T x y else none
  | .call c, none => mClr P c
  | _, _ => some .dead

theorem arr_two {α : Type} {l : Array α} {x y : α} (h : l.toList = [x, y]) : l = #[x, y] := by
  cases l; simp at h; subst h; rfl
theorem arr_one {α : Type} {l : Array α} {x : α} (h : l.toList = [x]) : l = #[x] := by
  cases l; simp at h; subst h; rfl

section
variable {P : Program} {N : Nat}

theorem map_fst2 {ys : List XO} {ts : List Nat} (f : XO → Nat → Nat) (h : ys.length ≤ ts.length) : (List.zipWith (fun y t => (y, f y t)) ys ts).map (·.1) = ys := by
  induction ys generalizing ts with
  | nil => simp
  | cons y ys ih =>
    cases ts with
    | nil => simp at h
    | cons t ts => simp [ih (by simpa using h)]
theorem map_fst {ys : List XO} {ts : List Nat} (f : Nat → Nat) (h : ys.length ≤ ts.length) : (List.zipWith (fun y t => (y, f t)) ys ts).map (·.1) = ys := by
  induction ys generalizing ts with
  | nil => simp
  | cons y ys ih =>
    cases ts with
    | nil => simp at h
    | cons t ts => simp [ih (by simpa using h)]


theorem cOL_len : ∀ {l : List Operand} {ts : List Nat} {ys : List XO}, cOL P l ts = some ys → ys.length = l.length
  | [], _, _, h => by simp [cOL] at h; subst h; rfl
  | x :: l, ts, ys, h => by
    simp only [cOL] at h
    split at h
    · rename_i y ys' h1 h2
      cases h
      simp [cOL_len h2]
    · cases h

theorem mLd_spec {T n : Nat} {g : Bool} (h : mLd P T = some (n, g)) : isAggB P T = some g ∧ (P.info? T).isSome = true ∧ P.cellsOf T = n ∧ (g = false → n = 1) := by
  unfold mLd at h
  split at h
  · rename_i g' hg
    split at h
    · rename_i hc
      simp only [Option.some.injEq, Prod.mk.injEq] at h
      obtain ⟨rfl, rfl⟩ := h
      exact ⟨hg, hc.1, rfl, hc.2⟩
    · cases h
  · cases h

theorem coL_take : ∀ {l : List Operand} {ys : List XO} (j : Nat), CoL l ys → CoL (l.take j) (ys.take j)
  | _, _, 0, _ => by simp [CoL]
  | [], [], _ + 1, _ => trivial
  | [], _ :: _, _ + 1, h => h.elim
  | _ :: _, [], _ + 1, h => h.elim
  | x :: l, y :: ys, j + 1, h => ⟨h.1, coL_take j h.2⟩
theorem coL_drop : ∀ {l : List Operand} {ys : List XO} (j : Nat), CoL l ys → CoL (l.drop j) (ys.drop j)
  | _, _, 0, h => h
  | [], [], _ + 1, _ => trivial
  | [], _ :: _, _ + 1, h => h.elim
  | _ :: _, [], _ + 1, h => h.elim
  | x :: l, y :: ys, j + 1, h => coL_drop j h.2
theorem coL_at : ∀ {l : List Operand} {ys : List XO} {j : Nat} {y : XO}, CoL l ys → ys[j]? = some y → ∃ x m, l[j]? = some x ∧ cO m x = some y ∧ l = l.take j ++ x :: l.drop (j + 1)
  | [], [], _, _, _, h => by simp at h
  | [], _ :: _, _, _, h, _ => h.elim
  | _ :: _, [], _, _, h, _ => h.elim
  | x :: l, y :: ys, 0, z, h, hj => by
    simp at hj; subst hj
    obtain ⟨m, hm⟩ := h.1
    exact ⟨x, m, rfl, hm, by simp⟩
  | x :: l, y :: ys, j + 1, z, h, hj => by
    obtain ⟨x', m, h1, h2, h3⟩ := coL_at h.2 (by simpa using hj)
    exact ⟨x', m, by simpa using h1, h2, by simp only [List.take_succ_cons, List.drop_succ_cons, List.cons_append]; rw [← h3]⟩
theorem cO_tmp' {m : Nat} {x : Operand} {q : Nat} (h : cO m x = some (.t q)) : x = .tmp q := by
  unfold cO at h
  split at h <;> first | (cases h; rfl) | cases h

theorem whole_eval {B : Base P} {N : Nat} {st : St} {a : Act} {w : World} {S : CS} {fp : Nat → CS} (hr : Rl B N st a w S fp) {m q : Nat} {x' : Operand} {y : XO} (hx2 : cO m x' = some y) (hw : st.whole y q) : a.eval x' = tm a q := by
  rcases hw with ⟨hw, cs, hcs⟩ | hw
  · obtain ⟨b, o, h1, h2⟩ := hr.res hx2 hw
    have h3 := hr.rv q
    rw [hcs] at h1 h3
    obtain ⟨b', o', us, h4, _⟩ := h3
    rw [h4] at h1 ⊢
    simp only [addr, V.place, ptrOf, Option.map_some, Option.some.injEq, Prod.mk.injEq] at h1
    obtain ⟨rfl, rfl⟩ := h1
    rw [h2]; rfl
  · have hv := hr.val hx2
    cases y with
    | t k =>
      simp only [St.resH] at hw
      split at hw
      · rename_i n es hs
        simp only [Option.some.injEq, Prod.mk.injEq, and_true] at hw
        subst hw
        rw [cO_tmp' hx2]; rfl
      · rename_i y hy
        split at hw <;> try (cases hw; done)
        rename_i hg
        simp only [Option.some.injEq, Prod.mk.injEq] at hw
        obtain ⟨e1, e2⟩ := hw
        simp only [St.val, hy] at hv
        simp only [Bool.and_eq_true, Bool.not_eq_true', St.good, decide_eq_true_eq, Bool.or_eq_true] at hg
        have := hv.2.2 hg.2.1 hg.2.2.1 (good_bx hg.2.2.2)
        rw [Al.pth_f hg.1, hg.1, e2, e1] at this
        exact this
      · cases hw
    | c v => simp [St.resH] at hw
    | nil n => simp [St.resH] at hw
theorem stepK_call {d f : Nat} {o : Oper} {c : Call} {md : Md} {x : XOp} {st : St} {K : St → Prop} (ho : o.op = .call c) (hc : c.callee = .value (.func f)) (hd : o.dst = some d) (hdN : d < N)
    (hm : (match P.funcs[f]? with
        | some fn => if fn.body.isSome = true ∧ fn.name ≠ "runtime.NumGoroutine" ∧ c.argTypes.size = c.args.size then
            match cOL P c.args.toList c.argTypes.toList with
            | some ys => mCall P d f md ys (prs fn ys.length)
            | none => none
          else none
        | none => none) = some x) (h : stepK P x st K) : OT P N o st K := by
  split at hm <;> try (cases hm; done)
  rename_i fn hf
  split at hm <;> try (cases hm; done)
  rename_i hb
  obtain ⟨body, hbody⟩ := Option.isSome_iff_exists.1 hb.1
  split at hm <;> try (cases hm; done)
  rename_i ys hys
  have hco := cOL_spec hys
  have hl : (List.zipWith (fun y t => (y, ptN P t)) ys (prs fn ys.length)).map (·.1) = ys := map_fst (ptN P) (Nat.le_of_eq (prs_len _ _).symm)
  have hl1 : ∀ j, ((List.zipWith (fun y t => (y, ptN P t)) ys (prs fn ys.length)).take j).map (·.1) = ys.take j := fun j => by rw [List.map_take, hl]
  have hl2 : ∀ j, ((List.zipWith (fun y t => (y, ptN P t)) ys (prs fn ys.length)).drop j).map (·.1) = ys.drop j := fun j => by rw [List.map_drop, hl]
  unfold mCall at hm
  split at hm
  · obtain rfl := Option.some.inj hm
    obtain ⟨h1, h2, v, h3, h4⟩ := h
    exact ot_call_s ho hc hf hbody hb.2.1 hd hdN hco h1 h2 h3 (fun res outs e => by rw [show res = v from e]; exact h4)
  · split at hm <;> try (cases hm; done)
    rename_i j _ q hj
    split at hm <;> try (cases hm; done)
    obtain rfl := Option.some.inj hm
    obtain ⟨hdq, hn1, hn2, hnq, R, hok, hk⟩ := h
    obtain ⟨x', m, hx1, hx2, hx3⟩ := coL_at hco hj
    obtain rfl := cO_tmp' hx2
    exact ot_call_mt ho hc hf hbody hb.2.1 hd hdN hdq (fun _ _ _ _ _ _ => rfl) hx3 (by rw [hl1]; exact coL_take j hco) (by rw [hl2]; exact coL_drop _ hco) hn1 hn2 hnq hok hk
  · split at hm <;> try (cases hm; done)
    rename_i j r _ y hj
    split at hm <;> try (cases hm; done)
    obtain rfl := Option.some.inj hm
    obtain ⟨hdr, n, g, p, cs, vs, as, hbx, hg, hvl, hvs, hvc, hinn, hnc, hn1, hn2, R, hok, hk⟩ := h
    obtain ⟨x', m, hx1, hx2, hx3⟩ := coL_at hco hj
    exact ot_call_ma ho hc hf hbody hb.2.1 hd hdN hdr hx3 (by rw [hl1]; exact coL_take j hco) hx2 (by rw [hl2]; exact coL_drop _ hco) hbx hg hvl hvs hvc hinn hnc rfl hn1 hn2 hok hk
  · split at hm <;> try (cases hm; done)
    rename_i j _ q hj
    split at hm <;> try (cases hm; done)
    obtain rfl := Option.some.inj hm
    obtain ⟨hdq, hc1, hc2, hn, R, hok, hk⟩ := h
    obtain ⟨x', m, hx1, hx2, hx3⟩ := coL_at hco hj
    obtain rfl := cO_tmp' hx2
    exact ot_call_mts ho hc hf hbody hb.2.1 hd hdN hdq (fun _ _ _ _ _ _ => rfl) hx3 (by rw [hl1]; exact coL_take j hco) (by rw [hl2]; exact coL_drop _ hco) hc1 hc2 hn hok hk
  · split at hm <;> try (cases hm; done)
    rename_i j q _ y hj
    split at hm <;> try (cases hm; done)
    obtain rfl := Option.some.inj hm
    obtain ⟨hw, hdq, hc1, hc2, hn, R, hok, hk⟩ := h
    obtain ⟨x', m, hx1, hx2, hx3⟩ := coL_at hco hj
    exact ot_call_mts ho hc hf hbody hb.2.1 hd hdN hdq (fun B a w S fp hr => whole_eval hr hx2 hw) hx3 (by rw [hl1]; exact coL_take j hco) (by rw [hl2]; exact coL_drop _ hco) hc1 hc2 hn hok hk
  · split at hm <;> try (cases hm; done)
    rename_i j r s _ y hj
    split at hm <;> try (cases hm; done)
    obtain rfl := Option.some.inj hm
    obtain ⟨hdr, hsr, hsd, ss, bs, hss, hbs, n, g, p, cs, vs, as, hbx, hg, hvl, hvs, hvc, hinn, hnc, hn1, hn2, R, hok, hk⟩ := h
    obtain ⟨x', m, hx1, hx2, hx3⟩ := coL_at hco hj
    exact ot_call_mas ho hc hf hbody hb.2.1 hd hdN hdr hsr hsd hss hbs hx3 (by rw [hl1]; exact coL_take j hco) hx2 (by rw [hl2]; exact coL_drop _ hco) hbx hg hvl hvs hvc hinn hnc rfl hn1 hn2 hok hk
  · split at hm <;> try (cases hm; done)
    rename_i j q _ y hj
    split at hm <;> try (cases hm; done)
    obtain rfl := Option.some.inj hm
    obtain ⟨hw, hdq, hn1, hn2, hnq, R, hok, hk⟩ := h
    obtain ⟨x', m, hx1, hx2, hx3⟩ := coL_at hco hj
    refine ot_call_mt ho hc hf hbody hb.2.1 hd hdN hdq (fun B a w S fp hr => ?_) hx3 (by rw [hl1]; exact coL_take j hco) (by rw [hl2]; exact coL_drop _ hco) hn1 hn2 hnq hok hk
    exact whole_eval hr hx2 hw
  · split at hm <;> try (cases hm; done)
    rename_i j _ _ q q2 hj hj2
    split at hm <;> try (cases hm; done)
    rename_i hcond
    obtain rfl := Option.some.inj hm
    obtain ⟨⟨hdq, hdq2, hqq⟩, hn1, hn2, hnq, hnq2, R, hok, hk⟩ := h
    obtain ⟨x', m, hx1, hx2, hx3⟩ := coL_at hco hj
    obtain rfl := cO_tmp' hx2
    have hj2' : ys[ys.length - 1]? = some (.t q2) := by rw [← hj2, List.getLast?_eq_getElem?]
    obtain ⟨x2', m2, hx21, hx22, hx23⟩ := coL_at hco hj2'
    obtain rfl := cO_tmp' hx22
    have hcl : c.args.toList.length = ys.length := coL_len hco
    have hd2 : (c.args.toList.drop (j + 1)).take (ys.length - (j + 2)) ++ [.tmp q2] = c.args.toList.drop (j + 1) := by
      have h1 : (c.args.toList.drop (j + 1)).length = ys.length - (j + 2) + 1 := by rw [List.length_drop, hcl]; omega
      have h2 : (c.args.toList.drop (j + 1))[ys.length - (j + 2)]? = some (.tmp q2) := by
        rw [List.getElem?_drop, show j + 1 + (ys.length - (j + 2)) = ys.length - 1 by omega]; exact hx21
      have h3 := List.take_add_one (l := c.args.toList.drop (j + 1)) (i := ys.length - (j + 2))
      rw [h2] at h3
      simp only [Option.toList] at h3
      rw [← h3, List.take_of_length_le (by omega)]
    exact ot_call_m2 ho hc hf hbody hb.2.1 hd hdN hdq hdq2 hqq (x := .tmp q) (x2 := .tmp q2) (fun _ => rfl) (fun _ => rfl) (by rw [hd2]; exact hx3) (by rw [hl1]; exact coL_take j hco)
      (by rw [List.map_take, hl2]; exact coL_take _ (coL_drop _ hco)) hn1 hn2 hnq hnq2 hok hk
  · obtain rfl := Option.some.inj hm
    obtain ⟨h2, v, h3, h4, h5⟩ := h
    have hl9 : (List.zipWith (fun y t => (y, match y with | .nil _ => 1 | _ => ptN P t)) ys (prs fn ys.length)).map (·.1) = ys := map_fst2 (fun y t => match y with | .nil _ => 1 | _ => ptN P t) (Nat.le_of_eq (prs_len _ _).symm)
    exact ot_call_b ho hc hf hbody hb.2.1 hd hdN (by rw [hl9]; exact hco) h2 h3 (fun res outs e => by rw [show res = v from e]; exact ⟨h4, h5⟩)
  · obtain rfl := Option.some.inj hm
    obtain ⟨h2, v, h3, h4, h5⟩ := h
    exact ot_call_b ho hc hf hbody hb.2.1 hd hdN (by rw [hl]; exact hco) h2 h3 (fun res outs e => by rw [show res = v from e]; exact ⟨h4, h5⟩)

theorem mEq1_sound {d t ty : Nat} {neg : Bool} {x y : Operand} {o : Oper} {z : XOp} {st : St} {K : St → Prop} (ho : o.op = .binOp (if neg then .neq else .eql) t x y ty) (hd : o.dst = some d) (hdN : d < N) (hm : mEq1 P d neg t x y = some z) (h : stepK P z st K) : OT P N o st K := by
  unfold mEq1 at hm
  split at hm
  · rename_i e hT
    split at hm
    · rename_i x' hx
      obtain rfl := Option.some.inj hm
      simp only [stepK] at h
      split at h
      · exact ot_nilq ho hd hdN hT hx (by assumption) h.1 h.2
      · exact h.elim
    · cases hm
  · split at hm
    · rename_i ks x' y' hk hx hy
      obtain rfl := Option.some.inj hm
      simp only [stepK] at h
      split at h
      · split at h
        · exact ot_eqA ho hd hdN hx hy hk (by assumption) (by assumption) (by assumption) h
        · exact h.elim
      · exact h.elim
    · cases hm
theorem mEq_sound {d t ty : Nat} {op : BinOp} {x y : Operand} {o : Oper} {z : XOp} {st : St} {K : St → Prop} (ho : o.op = .binOp op t x y ty) (hd : o.dst = some d) (hdN : d < N) (hm : mEq P d op t x y = some z) (h : stepK P z st K) : OT P N o st K := by
  unfold mEq at hm
  split at hm
  · exact mEq1_sound (neg := false) ho hd hdN hm h
  · exact mEq1_sound (neg := true) ho hd hdN hm h
  · cases hm

theorem mCv_sound {d s t : Nat} {x : Operand} {o : Oper} {z : XOp} {st : St} {K : St → Prop} (ho : o.op = .convert s t x) (hd : o.dst = some d) (hdN : d < N) (hm : mCv P d s t x = some z) (h : stepK P z st K) : OT P N o st K := by
  unfold mCv at hm
  split at hm
  · rename_i k' k hs ht
    obtain ⟨x', hx, rfl⟩ := Option.map_eq_some_iff.1 hm
    simp only [stepK] at h
    split at h
    · rename_i k1 z hz
      obtain ⟨rfl, h⟩ := h
      exact ot_cvi ho hd hdN hs ht hx hz h
    · exact h.elim
  · rename_i e hs ht
    split at hm
    · rename_i he
      obtain ⟨x', hx, rfl⟩ := Option.map_eq_some_iff.1 hm
      simp only [stepK] at h
      split at h
      · rename_i n es hv
        obtain ⟨rfl, h⟩ := h
        split at h
        · exact ot_b2s ho hd hdN hs he ht hx hv (by assumption) h
        · exact h.elim
      · exact h.elim
    · cases hm
  · rename_i e hs ht
    split at hm
    · rename_i he
      obtain ⟨x', hx, rfl⟩ := Option.map_eq_some_iff.1 hm
      exact h.elim
    · cases hm
  · cases hm

theorem CoB.none_of {x : Option Operand} {y : Option XO} (h : CoB x y) : (∀ z, x = some z → ∃ z', y = some z' ∧ cO 0 z = some z') ∧ (x = none → y = none) := by
  match x, y, h with
  | none, none, _ => exact ⟨fun _ h => (by cases h), fun _ => rfl⟩
  | some a, some b, h => exact ⟨fun z hz => by cases hz; exact ⟨b, rfl, h⟩, fun h => by cases h⟩

theorem tlU_sound {o : Oper} {d m n T by_ : Nat} {x : Operand} {x' : XO} {lo : Option Operand} {lo' : Option XO} {st : St} {K : St → Prop} (ho : o.op = .slice T x lo none none) (hd : o.dst = some d) (hdN : d < N) (hT : slE P T = some (n, by_))
    (hx : cO m x = some x') (hlo : CoB lo lo') (h : onU (tlU d n x' lo' st) st K) : OT P N o st K := by
  unfold tlU at h
  split at h <;> try exact h.elim
  rename_i r hr
  split at h <;> try exact h.elim
  rename_i m2 es hs
  split at h <;> try exact h.elim
  rename_i hm
  subst hm
  split at h <;> try exact h.elim
  rename_i l hb
  split at h <;> try exact h.elim
  rename_i hl
  exact ot_tl ho hd hdN hT hx hlo hr hs hb hl h
theorem mClr_sound {o : Oper} {c : Call} {z : XOp} {st : St} {K : St → Prop} (ho : o.op = .call c) (hd : o.dst = none) (hm : mClr P c = some z) (h : stepK P z st K) : OT P N o st K := by
  unfold mClr at hm
  split at hm
  · rename_i hc
    split at hm <;> try (cases hm; done)
    rename_i x T hx hT
    split at hm <;> try (cases hm; done)
    rename_i e he
    split at hm <;> try (cases hm; done)
    rename_i zs x' hzs hx'
    obtain rfl := Option.some.inj hm
    simp only [stepK, clrU] at h
    split at h <;> try exact h.elim
    rename_i al m hv
    split at h <;> try exact h.elim
    rename_i hg
    split at h <;> try exact h.elim
    rename_i hp
    split at h <;> try exact h.elim
    rename_i l k hpa
    split at h <;> try exact h.elim
    rename_i n es hs
    split at h <;> try exact h.elim
    rename_i hk0
    split at h <;> try exact h.elim
    rename_i hn
    split at h <;> try exact h.elim
    rename_i hlm
    split at h <;> try exact h.elim
    rename_i hm0
    subst hk0
    exact ot_clr ho hc (arr_one hx) (arr_one hT) hd hx' he hzs hn.symm hv hg hp hpa rfl hs hlm hm0 h
  · obtain rfl := Option.some.inj hm; exact h.elim
theorem mSlc_sound {d T : Nat} {md : Md} {x : Operand} {lo hi : Option Operand} {o : Oper} {z : XOp} {st : St} {K : St → Prop} (ho : o.op = .slice T x lo hi none) (hd : o.dst = some d) (hdN : d < N) (hm : mSlc P d md T x lo hi = some z) (h : stepK P z st K) : OT P N o st K := by
  unfold mSlc at hm
  split at hm
  · rename_i lo' hi' hT hlo hhi
    obtain ⟨x', hx, rfl⟩ := Option.map_eq_some_iff.1 hm
    simp only [stepK] at h
    split at h
    · split at h
      · split at h
        · exact ot_slc_str ho hd hdN hT hx (mB_spec hlo).none_of.1 (mB_spec hlo).none_of.2 (mB_spec hhi).none_of.1 (mB_spec hhi).none_of.2 (by assumption) (by assumption) (by assumption) h
        · exact h.elim
      · exact h.elim
    · exact h.elim
  · rename_i e lo' hi' hT hlo hhi
    split at hm
    · rename_i n by_ hE
      split at hm
      · obtain rfl := Option.some.inj hm
        simp only [stepK] at h
        split at h
        · obtain ⟨rfl, h⟩ := h
          split at h
          · split at h
            · exact ot_cutT ho hd hdN hE (mB_spec hlo) (mB_spec hhi) (by assumption) (by assumption) (by assumption) h
            · exact h.elim
          · exact h.elim
        · exact h.elim
      · split at hm <;> try (cases hm; done)
        obtain ⟨x', hx, rfl⟩ := Option.map_eq_some_iff.1 hm
        simp only [stepK] at h
        cases hi with
        | none => exact tlU_sound ho hd hdN hE hx (mB_spec hlo) h
        | some _ => exact (mB_spec hhi).elim
      · obtain ⟨x', hx, rfl⟩ := Option.map_eq_some_iff.1 hm
        simp only [stepK] at h
        split at h
        · obtain ⟨rfl, h⟩ := h
          split at h
          · split at h
            · exact ot_cutS ho hd hdN hE hx (mB_spec hlo) (mB_spec hhi) (by assumption) (by assumption) (by assumption) h
            · exact h.elim
          · exact h.elim
        · exact h.elim
    · cases hm
  · cases hm

theorem mBld_sound {d T : Nat} {parts : Array (Nat × Operand)} {o : Oper} {z : XOp} {st : St} {K : St → Prop} (ho : o.op = .build T parts) (hd : o.dst = some d) (hdN : d < N) (hm : mBld P d T parts = some z) (h : stepK P z st K) : OT P N o st K := by
  unfold mBld at hm
  split at hm
  · rename_i fs zs hT hz
    split at hm
    · rename_i pl hpl
      obtain ⟨ps, hps, rfl⟩ := Option.map_eq_some_iff.1 hm
      simp only [stepK] at h
      split at h
      · exact ot_bld ho hd hdN hT hz hpl (mPrt_spec hps) (by assumption) h
      · exact h.elim
    · cases hm
  · cases hm

theorem mBldS_sound {md : Md} {d T k : Nat} {parts : Array (Nat × Operand)} {o : Oper} {z : XOp} {st : St} {K : St → Prop} (ho : o.op = .buildSlice T k parts) (hd : o.dst = some d) (hdN : d < N) (hm : mBldS P md d T k parts = some z) (h : stepK P z st K) : OT P N o st K := by
  unfold mBldS at hm
  split at hm
  · rename_i e hT
    split at hm
    · rename_i zs hz
      split at hm
      · rename_i hc
        obtain ⟨ps, hps, rfl⟩ := Option.map_eq_some_iff.1 hm
        by_cases hmd : md = .z
        · rw [if_pos hmd] at h
          simp only [stepK] at h
          split at h
          · exact ot_bldZ ho hd hdN hT hz hc.1 hc.2 (mPrt_spec hps) (by assumption) h
          · exact h.elim
        · rw [if_neg hmd] at h
          simp only [stepK] at h
          split at h
          · exact ot_bldS ho hd hdN hT hz hc.1 hc.2 (mPrt_spec hps) (by assumption) h
          · exact h.elim
      · cases hm
    · cases hm
  · cases hm

theorem mMk_sound {d T : Nat} {x y : Operand} {o : Oper} {z : XOp} {st : St} {K : St → Prop} (ho : o.op = .makeSlice T x y) (hd : o.dst = some d) (hdN : d < N) (hm : mMk P d T x y = some z) (h : stepK P z st K) : OT P N o st K := by
  unfold mMk at hm
  split at hm
  · rename_i e hT
    split at hm
    · rename_i zs n by_ x' y' hz hE hx hy
      split at hm
      · rename_i hc
        obtain ⟨hc1, rfl⟩ := hc
        obtain rfl := Option.some.inj hm
        simp only [stepK] at h
        split at h
        · rename_i k l k2 l2 h1 h2
          obtain ⟨h0, rfl, h3, h4, h⟩ := h
          obtain ⟨m, rfl⟩ : ∃ m : Nat, l2 = m := ⟨l2.toNat, (Int.toNat_of_nonneg h0).symm⟩
          exact ot_mkS ho hd hdN hT hz hc1 hx hy h1 h2 hE h3 (by omega) h
        · exact h.elim
      · cases hm
    · cases hm
  · cases hm

theorem mApp0_sound {d : Nat} {md : Md} {c : Call} {o : Oper} {z : XOp} {st : St} {K : St → Prop} (ho : o.op = .call c) (hc : c.callee = .builtin .append) (hd : o.dst = some d) (hdN : d < N) (hm : mApp0 P d md c.args.toList c.argTypes.toList = some z) (h : stepK P z st K) : OT P N o st K := by
  unfold mApp0 at hm
  split at hm <;> try (cases hm; done)
  rename_i x y T T' ha ht
  split at hm <;> try (cases hm; done)
  rename_i hTT
  subst hTT
  split at hm <;> try (cases hm; done)
  rename_i n by_ hE
  split at hm <;> try (cases hm; done)
  rename_i x' hx
  split at hm
  · rename_i q
    obtain rfl := Option.some.inj hm
    simp only [stepK] at h
    split at h <;> try exact h.elim
    rename_i m es h1
    split at h <;> try exact h.elim
    rename_i m2 es2 h2
    obtain ⟨rfl, rfl, hl, hb1, hb2, hne, h⟩ := h
    refine ot_appT ho hc (arr_two ha) (arr_two ht) hd hdN hE hx h1 h2 ?_ hl hb1 hb2 h
    intro e; subst e; simp [XO.ne] at hne
  · obtain ⟨y', hy, rfl⟩ := Option.map_eq_some_iff.1 hm
    simp only [stepK] at h
    split at h <;> try exact h.elim
    rename_i m es h1
    split at h <;> try exact h.elim
    rename_i m2 es2 h2
    obtain ⟨rfl, rfl, hl, hb1, hb2, hcp, hne, h⟩ := h
    refine ot_app ho hc (arr_two ha) (arr_two ht) hd hdN hE hx hy h1 h2 hcp hl ?_ hb1 hb2 h
    match x', y', hne, h2 with
    | .t a, .t b, hne, _ => exact .inl (by simp [XO.ne] at hne; simpa using hne)
    | .t a, .nil _, _, _ => exact .inl (by simp)
    | .nil _, .t _, _, _ => exact .inl (by simp)
    | .c _, .t _, _, _ => exact .inl (by simp)
    | _, .c v, _, h2 => simp [St.sv, St.val, St.resH] at h2
    | .c _, .nil _, _, _ => exact .inl (by simp)
    | .nil _, .nil k, _, h2 => exact .inr (by simp [St.sv, St.val] at h2; exact h2.2)
theorem stepA_K {x : XOp} {st : St} {K : St → Prop} (h : onU (stepA x st) st K) : stepK P x st K := by
  refine stepX_K ?_
  cases x <;> first | exact h | exact h.elim
theorem appC_sound {d n by_ q : Nat} {y : XO} {tk : Bool} {o : Oper} {st : St} {K : St → Prop} (hq : q < N) (h : onU (appCU d n by_ q y tk st) st K) (hs : ∀ st1, stepK P (innApp d n by_ q y tk) st1 K → OT P N o st1 K) : OT P N o st K := by
  unfold appCU at h
  split at h <;> try exact h.elim
  rename_i r b v' c hc
  refine ot_claim hq hc (hs _ (stepA_K ?_))
  split at h <;> try exact h.elim
  rename_i us hus
  rw [hus]
  cases b <;> exact h
theorem mApp_sound {d : Nat} {md : Md} {c : Call} {o : Oper} {z : XOp} {st : St} {K : St → Prop} (ho : o.op = .call c) (hc : c.callee = .builtin .append) (hd : o.dst = some d) (hdN : d < N) (hm : mApp P N d md c.args.toList c.argTypes.toList = some z) (h : stepK P z st K) : OT P N o st K := by
  unfold mApp at hm
  split at hm
  · split at hm <;> try (cases hm; done)
    rename_i d' n by_ q y hm0
    split at hm <;> try (cases hm; done)
    rename_i hq
    cases hm
    exact appC_sound hq h (fun st1 h1 => mApp0_sound ho hc hd hdN hm0 (by cases y <;> exact h1))
  · split at hm <;> try (cases hm; done)
    rename_i d' n by_ q q2 hm0
    split at hm <;> try (cases hm; done)
    rename_i hq
    cases hm
    exact appC_sound hq h (fun st1 h1 => mApp0_sound ho hc hd hdN hm0 h1)
  · exact mApp0_sound ho hc hd hdN hm h
theorem mMM_sound {d : Nat} {mx : Bool} {c : Call} {o : Oper} {z : XOp} {st : St} {K : St → Prop} (ho : o.op = .call c) (hc : c.callee = .builtin (if mx then .max else .min)) (hd : o.dst = some d) (hdN : d < N) (hm : mMM d mx c.args.toList = some z) (h : stepK P z st K) : OT P N o st K := by
  unfold mMM at hm
  split at hm <;> try (cases hm; done)
  rename_i x y ha
  split at hm <;> try (cases hm; done)
  rename_i x' y' hx hy
  obtain rfl := Option.some.inj hm
  simp only [stepK] at h
  split at h <;> try exact h.elim
  split at h <;> try exact h.elim
  exact ot_mm ho hc (arr_two ha) hd hdN hx hy (by assumption) (by assumption) h

theorem stZ_sound {o : Oper} {x : Operand} {x' : XO} {q T : Nat} {st : St} {K : St → Prop} (ho : o.op = .store T x (.tmp q)) (hd : o.dst = none) (hx : cO 0 x = some x') (hi : (P.info? T).isSome = true) (hq : q < N) (h : onU (stZU x' q (P.cellsOf T) st) st K) : OT P N o st K := by
  cases hz : stZU x' q (P.cellsOf T) st with
  | none => rw [hz] at h; exact h.elim
  | some us =>
    rw [hz] at h
    unfold stZU at hz
    simp only at hz
    split at hz <;> try (cases hz; done)
    split at hz <;> try (cases hz; done)
    split at hz <;> try (cases hz; done)
    split at hz <;> try (cases hz; done)
    split at hz <;> try (cases hz; done)
    cases hz
    exact ot_frz hq (ot_store_cp ho hd (m' := 0) (z := .t q) hx rfl hi rfl (by assumption) (by assumption) (by assumption) (by assumption) (by assumption) h)
theorem mOp_soundK {md : Md} {o : Oper} {x : XOp} {st : St} {K : St → Prop} (hm : mOp P N md o = some x) (h : stepK P x st K) : OT P N o st K := by
  unfold mOp at hm
  split at hm
  -- move, assign
  case h_1 y d ho hd =>
    split at hm
    · rename_i hdN
      split at hm
      · obtain rfl := Option.some.inj hm
        exact ot_move_tk (n := 0) (.inl ho) hd hdN h
      · obtain rfl := Option.some.inj hm
        simp only [stepK] at h
        split at h
        · exact ot_move_al (.inl ho) hd hdN (by assumption) h
        · exact ot_move_cp (n := 0) (y := .t _) (.inl ho) hd hdN rfl h.1 h.2
      · split at hm
        · rename_i hr
          obtain rfl := Option.some.inj hm
          exact ot_move_fz (.inl ho) hd hdN hr h
        · cases hm
      · obtain rfl := Option.some.inj hm
        exact ot_move_nm (.inl ho) hd hdN h
      · obtain ⟨z, hz, rfl⟩ := Option.map_eq_some_iff.1 hm
        cases z with
        | nil k => exact ot_move_nil (.inl ho) hd hdN hz h
        | _ => exact ot_move_cp (.inl ho) hd hdN hz h.1 h.2
      · cases hm
    · cases hm
  case h_2 y d ho hd =>
    split at hm
    · rename_i hdN
      split at hm
      · obtain rfl := Option.some.inj hm
        exact ot_move_tk (n := 0) (.inr ho) hd hdN h
      · obtain rfl := Option.some.inj hm
        simp only [stepK] at h
        split at h
        · exact ot_move_al (.inr ho) hd hdN (by assumption) h
        · exact ot_move_cp (n := 0) (y := .t _) (.inr ho) hd hdN rfl h.1 h.2
      · split at hm
        · rename_i hr
          obtain rfl := Option.some.inj hm
          exact ot_move_fz (.inr ho) hd hdN hr h
        · cases hm
      · obtain rfl := Option.some.inj hm
        exact ot_move_nm (.inr ho) hd hdN h
      · obtain ⟨z, hz, rfl⟩ := Option.map_eq_some_iff.1 hm
        cases z with
        | nil k => exact ot_move_nil (.inr ho) hd hdN hz h
        | _ => exact ot_move_cp (.inr ho) hd hdN hz h.1 h.2
      · cases hm
    · cases hm
  case h_3 c a b d ho hd =>
    split at hm
    · rename_i hdN
      split at hm
      · rename_i c' a' b' hc ha hb
        obtain rfl := Option.some.inj hm
        simp only [stepK] at h
        split at h
        · rename_i t ht
          exact ot_pick ho hd hdN hc ha hb ht (fun e => by subst e; simpa using h.1) (fun e => by subst e; simpa using h.1) h.2
        · exact h.elim
      · cases hm
    · cases hm
  case h_4 op t x y ty d ho hd =>
    split at hm
    · rename_i hdN
      split at hm
      · rename_i z hz
        obtain rfl := Option.some.inj hm
        exact mEq_sound ho hd hdN hz h
      split at hm
      · rename_i x' y' hx hy
        obtain rfl := Option.some.inj hm
        simp only [stepK] at h
        split at h
        · rename_i u v hu hv
          split at h
          · rename_i r hr
            exact ot_bin ho hd hdN hx hy hu hv hr (fun e => by split at e <;> first | assumption | cases e) h
          · exact h.elim
        · exact h.elim
      · cases hm
    · cases hm
  case h_5 op t x d ho hd =>
    split at hm
    · rename_i hdN
      obtain ⟨x', hx, rfl⟩ := Option.map_eq_some_iff.1 hm
      simp only [stepK] at h
      split at h
      · rename_i u hu
        split at h
        · rename_i r hr
          exact ot_un ho hd hdN hx hu hr h
        · exact h.elim
      · exact h.elim
    · cases hm
  case h_6 T d ho hd =>
    split at hm
    · rename_i hdN
      split at hm
      · rename_i E hE
        cases hm
        exact ot_allocB ho hd hdN hE h
      obtain ⟨zs, hz, rfl⟩ := Option.map_eq_some_iff.1 hm
      exact ot_alloc ho hd hdN hz h
    · cases hm
  case h_7 T x d ho hd =>
    split at hm
    · rename_i hdN
      split at hm
      · obtain rfl := Option.some.inj hm
        simp only [stepK] at h
        split at h
        · exact ot_box_tk ho hd hdN (by assumption) h
        · exact h.elim
      · obtain rfl := Option.some.inj hm
        simp only [stepK] at h
        split at h
        · rename_i cs hcs
          exact ot_boxL ho hd hdN h.1 hcs (by rw [hcs]; simp only [V.cells]; rw [if_pos h.2.1]) h.2.2
        · exact h.elim
      · obtain ⟨x', hx, rfl⟩ := Option.map_eq_some_iff.1 hm
        simp only [stepK] at h
        split at h
        · rename_i cs hcs
          exact ot_boxZ ho hd hdN hx h.1 hcs h.2
        · exact h.elim
      · obtain ⟨x', hx, rfl⟩ := Option.map_eq_some_iff.1 hm
        simp only [stepK] at h
        split at h
        · exact ot_box_cp ho hd hdN hx h.1 (by assumption) h.2
        · exact h.elim
    · cases hm
  case h_8 T x f d ho hd =>
    split at hm
    · rename_i hdN
      split at hm
      · rename_i x' off hx hf
        obtain rfl := Option.some.inj hm
        simp only [stepK] at h
        split at h
        · exact ot_fadr_rp ho hd hdN hx hf (by assumption) h
        · split at h
          · exact ot_fadr_own ho hd hdN hx hf (by assumption) h
          · exact h.elim
      · cases hm
    · cases hm
  case h_9 T x i d ho hd =>
    split at hm
    · rename_i hdN
      split at hm
      · rename_i n x' i' hn hx hi
        obtain rfl := Option.some.inj hm
        simp only [stepK] at h
        split at h
        · rename_i k z hz
          obtain ⟨h0, h⟩ := h
          obtain ⟨m, rfl⟩ : ∃ m : Nat, z = m := ⟨z.toNat, (Int.toNat_of_nonneg h0).symm⟩
          rw [Int.toNat_natCast] at h
          split at h
          · obtain ⟨rfl, e, he, h⟩ := h
            exact ot_iadr_shr ho hd hdN hx hi hn hz (by assumption) he h
          · split at h
            · split at h
              · obtain ⟨rfl, hlt, h⟩ := h
                exact ot_iadr_own ho hd hdN hx hi hn hz (by assumption) (by assumption) hlt h
              · exact h.elim
            · exact h.elim
        · exact h.elim
      · cases hm
    · cases hm
  case h_10 T x d ho hd =>
    split at hm
    · rename_i hdN
      split at hm
      · rename_i n g x' hl hx
        obtain ⟨hg, hi, hn, h1⟩ := mLd_spec hl
        cases md with
        | t =>
          obtain rfl := Option.some.inj hm
          simp only [stepK] at h
          split at h
          · obtain ⟨hne, h⟩ := h
            split at h
            · exact ot_load_tk ho hd hdN hx hg hi hn h1 (by assumption) hne (by assumption) h
            · exact h.elim
          · exact h.elim
        | z =>
          obtain rfl := Option.some.inj hm
          simp only [stepK] at h
          split at h
          · obtain ⟨hne, h⟩ := h
            split at h
            · exact ot_load_fz ho hd hdN hx hg hi hn h1 (by assumption) hne (by assumption) h
            · exact h.elim
          · exact h.elim
        | _ =>
          obtain rfl := Option.some.inj hm
          simp only [stepK] at h
          split at h
          · exact ot_load_rp ho hd hdN hx hg hi hn h1 (by assumption) h.1 h.2.1 h.2.2
          · split at h
            · split at h
              · exact ot_load_view ho hd hdN hx hg hi hn h1 (by assumption) (by assumption) h
              · exact h.elim
            · exact h.elim
      · cases hm
    · cases hm
  case h_11 T x y ho hd =>
    split at hm
    · rename_i hi
      split at hm
      · rename_i x' hx
        split at hm
        · obtain rfl := Option.some.inj hm
          simp only [stepK] at h
          split at h
          · obtain ⟨hne, h⟩ := h
            split at h
            · exact ot_store_tk ho hd hx hi rfl (by assumption) hne (by assumption) (by assumption) h.1 h.2
            · exact h.elim
          · exact h.elim
        · split at hm <;> try (cases hm; done)
          rename_i hq
          obtain rfl := Option.some.inj hm
          simp only [stepK] at h
          exact stZ_sound ho hd hx hi hq h
        · obtain ⟨y', hy, rfl⟩ := Option.map_eq_some_iff.1 hm
          cases y' with
          | nil k =>
            simp only [stepK] at h
            split at h
            · split at h
              · exact ot_store_nil ho hd hx hy hi rfl (by assumption) (by assumption) h.1 h.2
              · exact h.elim
            · exact h.elim
          | _ =>
            simp only [stepK] at h
            split at h
            · split at h
              · exact ot_store_cp ho hd hx hy hi rfl (by assumption) (by assumption) h.1 (by assumption) h.2.1 h.2.2
              · exact h.elim
            · exact h.elim
      · cases hm
    · cases hm
  case h_12 x d ho hd =>
    split at hm
    · rename_i hdN
      obtain ⟨x', hx, rfl⟩ := Option.map_eq_some_iff.1 hm
      simp only [stepK] at h
      split at h
      · exact ot_nilck_rp ho hd hdN hx (by assumption) h
      · exact ot_nilck_fn ho hd hdN hx (by assumption) h.1 h.2
      · split at h
        · exact ot_nilck ho hd hdN hx (by assumption) h
        · exact h.elim
    · cases hm
  case h_13 x i d ho hd =>
    split at hm
    · rename_i hdN
      split at hm
      · split at hm
        · rename_i hr
          obtain rfl := Option.some.inj hm
          simp only [stepK] at h
          split at h
          · split at h
            · exact ot_ext_tk ho hd hdN hr h.1 (by assumption) (by assumption) h.2
            · exact h.elim
          · exact h.elim
        · cases hm
      · obtain ⟨x', hx, rfl⟩ := Option.map_eq_some_iff.1 hm
        simp only [stepK] at h
        split at h
        · split at h
          · exact ot_ext ho hd hdN hx (by assumption) (by assumption) h.1 h.2
          · exact h.elim
        · exact h.elim
    · cases hm
  case h_14 c d ho hd =>
    split at hm
    · rename_i hdN
      split at hm
      · rename_i hc
        exact mApp_sound ho hc hd hdN hm h
      · rename_i hc
        exact mMM_sound (mx := false) ho hc hd hdN hm h
      · rename_i hc
        exact mMM_sound (mx := true) ho hc hd hdN hm h
      · rename_i hc
        split at hm
        · rename_i x T ha hT
          have ha' := arr_one ha
          have hT' := arr_one hT
          split at hm
          · rename_i x' hu hx
            obtain rfl := Option.some.inj hm
            simp only [stepK] at h
            split at h
            · exact ot_len_str ho hc ha' hT' hd hdN hu hx (by assumption) h
            · exact h.elim
          · rename_i e x' hu hx
            obtain rfl := Option.some.inj hm
            simp only [stepK] at h
            split at h
            · exact ot_len_sl ho hc ha' hT' hd hdN hu hx (by assumption) h
            · split at h
              · split at h
                · exact ot_len_own ho hc ha' hT' hd hdN hu hx (by assumption) (by assumption) h
                · exact h.elim
              · exact h.elim
          · cases hm
        · cases hm
      · rename_i f hc
        exact stepK_call ho hc hd hdN hm h
      · rename_i x _ hc
        split at hm <;> try (cases hm; done)
        split at hm <;> try (cases hm; done)
        rename_i y ys hx hys
        cases hm
        obtain ⟨g, cs, h1, h2, h3, h4, h5, v, h6, h7⟩ := h
        exact ot_call_f ho hc hx h1 h2 hd hdN (cOL_spec hys) h3 h4 h5 h6 (fun res outs e => by rw [show res = v from e]; exact h7)
      · cases hm
    · cases hm
  case h_15 fn first caps d ho hd =>
    split at hm
    · rename_i hdN
      split at hm <;> try (cases hm; done)
      rename_i g
      split at hm <;> try (cases hm; done)
      rename_i hf
      obtain rfl := Array.eq_empty_of_size_eq_zero hf
      obtain ⟨ys, hys, rfl⟩ := Option.map_eq_some_iff.1 hm
      simp only [stepK] at h
      exact ot_mkF ho hd hdN (cOL_spec hys) h.1 h.2
    · cases hm
  case h_16 s t x d ho hd =>
    split at hm
    · rename_i hdN; exact mCv_sound ho hd hdN hm h
    · cases hm
  case h_17 T x f d ho hd =>
    split at hm
    · rename_i hdN
      split at hm
      · rename_i r off n g hf
        obtain rfl := Option.some.inj hm
        simp only [stepK] at h
        split at h
        · exact ot_fldT ho hd hdN hf (by assumption) h.1 h.2
        · exact h.elim
      · rename_i off n g _ hf
        obtain ⟨x', hx, rfl⟩ := Option.map_eq_some_iff.1 hm
        simp only [stepK] at h
        split at h
        · exact ot_fld ho hd hdN hx hf (by assumption) h.1 h.2.1 h.2.2
        · exact h.elim
      · cases hm
    · cases hm
  case h_18 T x i d ho hd =>
    split at hm
    · rename_i hdN
      split at hm
      · rename_i x' i' hT hx hi
        obtain rfl := Option.some.inj hm
        simp only [stepK] at h
        split at h
        · exact ot_idx ho hd hdN hT hx hi (by assumption) (by assumption) h.1 h.2
        · exact h.elim
      · cases hm
    · cases hm
  case h_19 T x lo hi d ho hd =>
    split at hm
    · rename_i hdN; exact mSlc_sound ho hd hdN hm h
    · cases hm
  case h_20 T parts d ho hd =>
    split at hm
    · rename_i hdN; exact mBld_sound ho hd hdN hm h
    · cases hm
  case h_21 T k parts d ho hd =>
    split at hm
    · rename_i hdN; exact mBldS_sound ho hd hdN hm h
    · cases hm
  case h_22 T x y d ho hd =>
    split at hm
    · rename_i hdN; exact mMk_sound ho hd hdN hm h
    · cases hm
  case h_23 c ho hd => exact mClr_sound ho hd hm h
  case h_24 => obtain rfl := Option.some.inj hm; exact h.elim

theorem mOp_sound {md : Md} {o : Oper} {x : XOp} {st : St} {K : St → Prop} (hm : mOp P N md o = some x) (h : stepX P x st K) : OT P N o st K := mOp_soundK hm (stepX_K h)
end
end Go.Proofs.YtainknkfjekngaaDoor.Vm
