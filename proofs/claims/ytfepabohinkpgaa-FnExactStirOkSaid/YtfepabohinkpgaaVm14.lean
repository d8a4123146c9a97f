/- The walk, step by step. -/
import Derived.Test.YtfepabohinkpgaaVm13
namespace Go.Proofs.Ytfepabohinkpgaa.Vm
open Go
set_option linter.unusedVariables false
set_option linter.unusedSimpArgs false

def xrK (P : Program) (l : List XG) (K : St → Prop) (st : St) : Prop := xr P l st K
def seqK (P : Program) (b : XC) (Q : Exit → St → Prop) (e : Exit) (st : St) : Prop :=
  match e with
  | .normal => xc P b st Q
  | e => Q e st
def blkK (id : Nat) (Q : Exit → St → Prop) (e : Exit) (st : St) : Prop :=
  match e with
  | .exit j => if j = id then Q .normal st else Q (.exit j) st
  | e => Q e st
def condW (P : Program) (c : XO) (a b : XC) (st : St) (Q : Exit → St → Prop) : Prop := condX c st (xc P a st Q) (xc P b st Q)
/-- What a round of a loop owes. -/
def rndK (I : St → Prop) (μ : St → Nat) (m : Nat) (Q : Exit → St → Prop) (e : Exit) (st : St) : Prop :=
  match e with
  | .normal => I st ∧ μ st < m
  | e => Q e st

section
variable {P : Program} {st : St} {K : St → Prop} {Q : Exit → St → Prop}
@[go_sem] theorem w_nil : xr P [] st K = K st := rfl
@[go_sem] theorem w_p {x : XOp} {l : List XG} : xr P (.p x :: l) st K = stepX P x st (xrK P l K) := rfl
@[go_sem] theorem w_g {t : Nat} {want : Bool} {d : Option Nat} {x : XOp} {l : List XG} : xr P (.g t want d x :: l) st K = guardX P t want d x st (xrK P l K) := rfl
@[go_sem] theorem w_K {l : List XG} : xrK P l K st = xr P l st K := rfl
@[go_sem] theorem w_skip : xc P .skip st Q = Q .normal st := rfl
@[go_sem] theorem w_reg {l : List XG} : xc P (.reg l) st Q = xr P l st (Q .normal) := rfl
@[go_sem] theorem w_seq {a b : XC} : xc P (.seq a b) st Q = xc P a st (seqK P b Q) := by
  show xc P a st _ = _
  congr 1
@[go_sem] theorem w_cond {c : XO} {a b : XC} : xc P (.cond c a b) st Q = condW P c a b st Q := rfl
@[go_sem] theorem w_block {id : Nat} {b : XC} : xc P (.block id b) st Q = xc P b st (blkK id Q) := by
  show xc P b st _ = _
  congr 1
@[go_sem] theorem w_exit {id : Nat} : xc P (.exit id) st Q = Q (.exit id) st := rfl
@[go_sem] theorem w_ret : xc P .ret st Q = Q .ret st := rfl
@[go_sem] theorem w_seqN {b : XC} : seqK P b Q .normal st = xc P b st Q := rfl
@[go_sem] theorem w_seqE {b : XC} {j : Nat} : seqK P b Q (.exit j) st = Q (.exit j) st := rfl
@[go_sem] theorem w_seqR {b : XC} : seqK P b Q .ret st = Q .ret st := rfl
@[go_sem] theorem w_blkN {id : Nat} : blkK id Q .normal st = Q .normal st := rfl
@[go_sem] theorem w_blkE {id j : Nat} : blkK id Q (.exit j) st = if j = id then Q .normal st else Q (.exit j) st := rfl
@[go_sem] theorem w_blkR {id : Nat} : blkK id Q .ret st = Q .ret st := rfl
@[go_sem] theorem w_rndN {I : St → Prop} {μ : St → Nat} {m : Nat} : rndK I μ m Q .normal st = (I st ∧ μ st < m) := rfl
@[go_sem] theorem w_rndE {I : St → Prop} {μ : St → Nat} {m j : Nat} : rndK I μ m Q (.exit j) st = Q (.exit j) st := rfl
@[go_sem] theorem w_rndR {I : St → Prop} {μ : St → Nat} {m : Nat} : rndK I μ m Q .ret st = Q .ret st := rfl

theorem w_loop {b : XC} (I : St → Prop) (μ : St → Nat) (h0 : I st) (h : ∀ st, I st → xc P b st (rndK I μ (μ st) Q)) : xc P (.loop b) st Q := by
  refine ⟨I, μ, h0, fun st hI => ?_⟩
  refine cast (congrArg (xc P b st) ?_) (h st hI)
  funext e st'; cases e <;> rfl

/-- A guard that is known. -/
@[go_sem] theorem w_gt {t : Nat} {d : Option Nat} {x : XOp} (h : (st t).v = .lit (.bool true)) : guardX P t true d x st K = stepX P x st K := by
  simp [guardX, h]
@[go_sem] theorem w_ff {t : Nat} {d : Option Nat} {x : XOp} (h : (st t).v = .lit (.bool false)) : guardX P t false d x st K = stepX P x st K := by
  simp [guardX, h]
@[go_sem] theorem w_gf {t d : Nat} {x : XOp} (h : (st t).v = .lit (.bool false)) : guardX P t true (some d) x st K = K (st.put d (.lit undef)) := by
  simp [guardX, h]
@[go_sem] theorem w_ft {t d : Nat} {x : XOp} (h : (st t).v = .lit (.bool true)) : guardX P t false (some d) x st K = K (st.put d (.lit undef)) := by
  simp [guardX, h]
@[go_sem] theorem w_gfn {t : Nat} {x : XOp} (h : (st t).v = .lit (.bool false)) : guardX P t true none x st K = K st := by
  simp [guardX, h]
@[go_sem] theorem w_ftn {t : Nat} {x : XOp} (h : (st t).v = .lit (.bool true)) : guardX P t false none x st K = K st := by
  simp [guardX, h]
/-- A guard that was itself skipped. -/
@[go_sem] theorem w_gu {t d : Nat} {want : Bool} {x : XOp} (h : (st t).v = .lit undef) : guardX P t want (some d) x st K = K (st.put d (.lit undef)) := by
  simp [guardX, h, undef]
@[go_sem] theorem w_gun {t : Nat} {want : Bool} {x : XOp} (h : (st t).v = .lit undef) : guardX P t want none x st K = K st := by
  simp [guardX, h, undef]
/-- A guard that is not: two ways. -/
theorem w_split {t : Nat} {want : Bool} {d : Option Nat} {x : XOp} (b : Bool) (h : (st t).v = .lit (.bool b)) (h1 : b = true → guardX P t want d x st K) (h2 : b = false → guardX P t want d x st K) : guardX P t want d x st K := by
  cases hb : b
  · exact h2 hb
  · exact h1 hb
@[go_sem] theorem w_ct {c : XO} {a b : XC} (h : st.val c = .lit (.bool true)) : condW P c a b st Q = xc P a st Q := by simp [condW, condX, h]
@[go_sem] theorem w_cf {c : XO} {a b : XC} (h : st.val c = .lit (.bool false)) : condW P c a b st Q = xc P b st Q := by simp [condW, condX, h]
theorem w_csplit {c : XO} {a b : XC} (t : Bool) (h : st.val c = .lit (.bool t)) (h1 : t = true → condW P c a b st Q) (h2 : t = false → condW P c a b st Q) : condW P c a b st Q := by
  cases hb : t
  · exact h2 hb
  · exact h1 hb

theorem w_callB {d f : Nat} {ys : List (XO × Nat)} {args : List V} (v : V) (ha : ys.map (fun y => st.bv y.2 y.1) = args) (hna : V.na.go args = true) (h : Ok P f args (fun r _ => r = v)) (hn : v.noShr = true) (hk : K (st.put d v)) : callBX P d f ys st K := by
  unfold callBX
  rw [ha]
  exact ⟨hna, v, h, hn, hk⟩
theorem w_callS {d f : Nat} {ys : List XO} {args : List V} (v : V) (ha : ys.map st.val = args) (hcp : V.cp.go args = true) (hna : V.na.go args = true) (h : Ok P f args (fun r _ => r = v)) (hk : K (st.put d v)) : callSX P d f ys st K := by
  unfold callSX
  rw [ha]
  exact ⟨hcp, hna, v, h, hk⟩

theorem w_end {rs : List XR} {np : Nat} {R : V → List V → Prop} {e : Exit} {l : List V} (he : e = .normal ∨ e = .ret) (hv : resV st rs = some l) (hna : V.na.go l = true) (hR : R (oneV l) (st.outs np)) : XEnd rs np R e st := ⟨he, l, hv, hna, hR⟩

@[go_sem] theorem w_on {s : St} : onS (some s) K = K s := rfl
theorem w_onif {c : Prop} [Decidable c] {o : Option St} (h : c) (hk : onS o K) : onS (if c then o else none) K := by rw [if_pos h]; exact hk

-- operators

@[go_sem] theorem b_add (a b : Int) : binV false .add (.int .i64 a) (.int .i64 b) = some (.int .i64 (IntKind.i64.wrap (a + b))) := rfl
@[go_sem] theorem b_sub (a b : Int) : binV false .sub (.int .i64 a) (.int .i64 b) = some (.int .i64 (IntKind.i64.wrap (a - b))) := rfl
@[go_sem] theorem b_mul (a b : Int) : binV false .mul (.int .i64 a) (.int .i64 b) = some (.int .i64 (IntKind.i64.wrap (a * b))) := rfl
@[go_sem] theorem b_lss (k : IntKind) (a b : Int) : binV false .lss (.int k a) (.int k b) = some (.bool (decide (a < b))) := by cases k <;> rfl
@[go_sem] theorem b_leq (k : IntKind) (a b : Int) : binV false .leq (.int k a) (.int k b) = some (.bool (decide (a ≤ b))) := by cases k <;> rfl
@[go_sem] theorem b_gtr (k : IntKind) (a b : Int) : binV false .gtr (.int k a) (.int k b) = some (.bool (decide (b < a))) := by cases k <;> rfl
@[go_sem] theorem b_geq (k : IntKind) (a b : Int) : binV false .geq (.int k a) (.int k b) = some (.bool (decide (b ≤ a))) := by cases k <;> rfl
@[go_sem] theorem b_eql (k : IntKind) (a b : Int) : binV false .eql (.int k a) (.int k b) = some (.bool (decide (a = b))) := by cases k <;> rfl
@[go_sem] theorem b_neq (k : IntKind) (a b : Int) : binV false .neq (.int k a) (.int k b) = some (.bool (!decide (a = b))) := by cases k <;> rfl
@[go_sem] theorem b_beq (a b : Bool) : binV true .eql (.bool a) (.bool b) = some (.bool (a == b)) := rfl
@[go_sem] theorem b_bne (a b : Bool) : binV true .neq (.bool a) (.bool b) = some (.bool (a != b)) := rfl
@[go_sem] theorem b_seq (a b : Str) : binV false .eql (.string (ba a)) (.string (ba b)) = some (.bool (decide (a = b))) := by
  show some (Value.bool ((ba a).toList == (ba b).toList)) = _
  rw [ba_toList, ba_toList]; congr 2; by_cases h : a = b <;> simp [h]
@[go_sem] theorem b_sne (a b : Str) : binV false .neq (.string (ba a)) (.string (ba b)) = some (.bool (!decide (a = b))) := by
  show some (Value.bool !((ba a).toList == (ba b).toList)) = _
  rw [ba_toList, ba_toList]; congr 3; by_cases h : a = b <;> simp [h]
theorem ba_app (a b : Str) : ba a ++ ba b = ba (a ++ b) := by
  apply ByteArray.ext; simp [ba]
theorem b_sadd (a b : Str) (h : a.length + b.length ≤ 9223372036854775807) : binV false .add (.string (ba a)) (.string (ba b)) = some (.string (ba (a ++ b))) := by
  show (if (((ba a).size + (ba b).size : Nat) : Int) > 9223372036854775807 then none else some (Value.string (ba a ++ ba b))) = _
  rw [if_neg (by simp; omega), ba_app]
@[go_sem] theorem ba_ext (s : Str) (l h : Nat) : (ba s).extract l h = ba ((s.take h).drop l) := by
  apply ByteArray.ext
  simp [ba, List.drop_take]
@[go_sem] theorem u_not (b : Bool) : unV .not (.bool b) = some (.bool (!b)) := rfl

-- the steps, one by one

@[go_sem] theorem f_mv (d : Nat) (x : XO) (st : St) : stepF (.mv d x) st = (if (st.val x).cp = true then some (st.put d (st.val x)) else none) := rfl
@[go_sem] theorem s_mv (P : Program) (d : Nat) (x : XO) (st : St) (K : St → Prop) : stepX P (.mv d x) st K = onS (stepF (.mv d x) st) K := rfl
@[go_sem] theorem f_mvT (d : Nat) (r : Nat) (st : St) : stepF (.mvT d r) st = (some ((st.put r .hole).put d (st r).v)) := rfl
@[go_sem] theorem s_mvT (P : Program) (d : Nat) (r : Nat) (st : St) (K : St → Prop) : stepX P (.mvT d r) st K = onS (stepF (.mvT d r) st) K := rfl
@[go_sem] theorem f_mvA (d : Nat) (r : Nat) (st : St) : stepF (.mvA d r) st = (match st.name r with
    | some V0 => some (st.put d V0)
    | none => if (st r).v.cp = true then some (st.put d (st r).v) else none) := rfl
@[go_sem] theorem s_mvA (P : Program) (d : Nat) (r : Nat) (st : St) (K : St → Prop) : stepX P (.mvA d r) st K = onS (stepF (.mvA d r) st) K := rfl
@[go_sem] theorem f_mvZ (d : Nat) (r : Nat) (st : St) : stepF (.mvZ d r) st = (some (((st.put r .hole).put r (st r).v.frz).put d (st r).v.frz)) := rfl
@[go_sem] theorem s_mvZ (P : Program) (d : Nat) (r : Nat) (st : St) (K : St → Prop) : stepX P (.mvZ d r) st K = onS (stepF (.mvZ d r) st) K := rfl
@[go_sem] theorem f_pick (d : Nat) (c : XO) (a : XO) (b : XO) (st : St) : stepF (.pick d c a b) st = (match st.val c with
    | .lit (.bool t) => if (if t then (st.val a).cp else (st.val b).cp) = true then some (st.put d (if t then st.val a else st.val b)) else none
    | _ => none) := rfl
@[go_sem] theorem s_pick (P : Program) (d : Nat) (c : XO) (a : XO) (b : XO) (st : St) (K : St → Prop) : stepX P (.pick d c a b) st K = onS (stepF (.pick d c a b) st) K := rfl
@[go_sem] theorem f_bin (d : Nat) (bt : Bool) (op : BinOp) (x : XO) (y : XO) (st : St) : stepF (.bin d bt op x y) st = (match st.val x, st.val y with
    | .lit a, .lit b => match binV bt op a b with
      | some v => some (st.put d (.lit v))
      | none => none
    | _, _ => none) := rfl
@[go_sem] theorem s_bin (P : Program) (d : Nat) (bt : Bool) (op : BinOp) (x : XO) (y : XO) (st : St) (K : St → Prop) : stepX P (.bin d bt op x y) st K = onS (stepF (.bin d bt op x y) st) K := rfl
@[go_sem] theorem f_un (d : Nat) (op : UnOp) (x : XO) (st : St) : stepF (.un d op x) st = (match st.val x with
    | .lit a => match unV op a with
      | some v => some (st.put d (.lit v))
      | none => none
    | _ => none) := rfl
@[go_sem] theorem s_un (P : Program) (d : Nat) (op : UnOp) (x : XO) (st : St) (K : St → Prop) : stepX P (.un d op x) st K = onS (stepF (.un d op x) st) K := rfl
@[go_sem] theorem f_alloc (d : Nat) (zs : List V) (st : St) : stepF (.alloc d zs) st = (some (st.put d (.box zs))) := rfl
@[go_sem] theorem s_alloc (P : Program) (d : Nat) (zs : List V) (st : St) (K : St → Prop) : stepX P (.alloc d zs) st K = onS (stepF (.alloc d zs) st) K := rfl
@[go_sem] theorem f_box (d : Nat) (x : XO) (st : St) : stepF (.box d x) st = (match (st.val x).cells with
    | some cs => if (st.val x).cp = true then some (st.put d (.box cs)) else none
    | none => none) := rfl
@[go_sem] theorem s_box (P : Program) (d : Nat) (x : XO) (st : St) (K : St → Prop) : stepX P (.box d x) st K = onS (stepF (.box d x) st) K := rfl
@[go_sem] theorem f_boxT (d : Nat) (r : Nat) (st : St) : stepF (.boxT d r) st = (match (st r).v.cells with
    | some cs => some ((st.put r .hole).put d (.box cs))
    | none => none) := rfl
@[go_sem] theorem s_boxT (P : Program) (d : Nat) (r : Nat) (st : St) (K : St → Prop) : stepX P (.boxT d r) st K = onS (stepF (.boxT d r) st) K := rfl
@[go_sem] theorem f_fadr (d : Nat) (x : XO) (off : Nat) (st : St) : stepF (.fadr d x off) st = (match st.val x with
    | .rp cs => some (st.put d (.rp (cs.drop off)))
    | _ => match st.res x with
      | some (r, p) => some (st.put d (st.ptrAt r (padd p off)))
      | none => none) := rfl
@[go_sem] theorem s_fadr (P : Program) (d : Nat) (x : XO) (off : Nat) (st : St) (K : St → Prop) : stepX P (.fadr d x off) st K = onS (stepF (.fadr d x off) st) K := rfl
@[go_sem] theorem f_iadr (d : Nat) (n : Nat) (x : XO) (i : XO) (st : St) : stepF (.iadr d n x i) st = (match st.val i with
    | .lit (.int _ k) => if 0 ≤ k then match st.val x with
      | .sl false m es => if m = n then match es[k.toNat]? with
        | some e => some (st.put d (.rp e))
        | none => none
        else none
      | _ => match st.resH x with
        | some (r, p) => match st.slAt r p with
          | some (.sl true m es) => if m = n then if k.toNat < es.length then some (st.put d (st.ptrAt r (p ++ [(k.toNat, 0)]))) else none else none
          | _ => none
        | none => none
      else none
    | _ => none) := rfl
@[go_sem] theorem s_iadr (P : Program) (d : Nat) (n : Nat) (x : XO) (i : XO) (st : St) (K : St → Prop) : stepX P (.iadr d n x i) st K = onS (stepF (.iadr d n x i) st) K := rfl
@[go_sem] theorem f_load (d : Nat) (x : XO) (n : Nat) (g : Bool) (st : St) : stepF (.load d x n g) st = (match st.val x with
    | .rp cs => if n ≤ cs.length then if V.cp.go (cs.take n) = true then some (st.put d (mkV g (cs.take n))) else none else none
    | _ => match st.res x with
      | some (r, p) => match (st r).v.getR n p with
        | some cs => some (st.put d (mkV g (st.view r p 0 cs)))
        | none => none
      | none => none) := rfl
@[go_sem] theorem s_load (P : Program) (d : Nat) (x : XO) (n : Nat) (g : Bool) (st : St) (K : St → Prop) : stepX P (.load d x n g) st K = onS (stepF (.load d x n g) st) K := rfl
@[go_sem] theorem f_loadT (d : Nat) (x : XO) (n : Nat) (g : Bool) (st : St) : stepF (.loadT d x n g) st = (match st.res x with
    | some (r, p) => if d ≠ r then match (st r).v.getR n p with
      | some cs => some ((st.mod r ((st r).v.setR p (cs.map V.rest))).put d (mkV g cs))
      | none => none
      else none
    | none => none) := rfl
@[go_sem] theorem s_loadT (P : Program) (d : Nat) (x : XO) (n : Nat) (g : Bool) (st : St) (K : St → Prop) : stepX P (.loadT d x n g) st K = onS (stepF (.loadT d x n g) st) K := rfl
@[go_sem] theorem f_loadZ (d : Nat) (x : XO) (n : Nat) (g : Bool) (st : St) : stepF (.loadZ d x n g) st = (match st.res x with
    | some (r, p) => if d ≠ r then match (st r).v.getR n p with
      | some cs => some ((st.mod r ((st r).v.setR p (V.frz.go cs))).put d (mkV g (V.frz.go cs)))
      | none => none
      else none
    | none => none) := rfl
@[go_sem] theorem s_loadZ (P : Program) (d : Nat) (x : XO) (n : Nat) (g : Bool) (st : St) (K : St → Prop) : stepX P (.loadZ d x n g) st K = onS (stepF (.loadZ d x n g) st) K := rfl
@[go_sem] theorem f_store (x : XO) (y : XO) (n : Nat) (st : St) : stepF (.store x y n) st = (match st.res x with
    | some (r, p) => match (st r).v.getR n p with
      | some _ => match (st.val y).cells with
        | some cs' => if (st.val y).cp = true then if cs'.length = n then some (st.mod r ((st r).v.setR p cs')) else none else none
        | none => none
      | none => none
    | none => none) := rfl
@[go_sem] theorem s_store (P : Program) (x : XO) (y : XO) (n : Nat) (st : St) (K : St → Prop) : stepX P (.store x y n) st K = onS (stepF (.store x y n) st) K := rfl
@[go_sem] theorem f_storeT (x : XO) (q : Nat) (n : Nat) (st : St) : stepF (.storeT x q n) st = (match st.res x with
    | some (r, p) => if q ≠ r then match (st r).v.getR n p with
      | some _ => match (st q).v.cells with
        | some cs' => if cs'.length = n then some ((st.put q .hole).mod r ((st r).v.setR p cs')) else none
        | none => none
      | none => none
      else none
    | none => none) := rfl
@[go_sem] theorem s_storeT (P : Program) (x : XO) (q : Nat) (n : Nat) (st : St) (K : St → Prop) : stepX P (.storeT x q n) st K = onS (stepF (.storeT x q n) st) K := rfl
@[go_sem] theorem f_nilck (d : Nat) (x : XO) (st : St) : stepF (.nilck d x) st = (match st.val x with
    | .rp cs => some (st.put d (.rp cs))
    | _ => match st.res x with
      | some (r, p) => some (st.put d (st.ptrAt r p))
      | none => none) := rfl
@[go_sem] theorem s_nilck (P : Program) (d : Nat) (x : XO) (st : St) (K : St → Prop) : stepX P (.nilck d x) st K = onS (stepF (.nilck d x) st) K := rfl
@[go_sem] theorem f_lenS (d : Nat) (x : XO) (st : St) : stepF (.lenS d x) st = (match st.val x with
    | .lit (.string s) => some (st.put d (.lit (.int .i64 s.size)))
    | _ => none) := rfl
@[go_sem] theorem s_lenS (P : Program) (d : Nat) (x : XO) (st : St) (K : St → Prop) : stepX P (.lenS d x) st K = onS (stepF (.lenS d x) st) K := rfl
@[go_sem] theorem f_lenB (d : Nat) (x : XO) (st : St) : stepF (.lenB d x) st = (match st.val x with
    | .sl _ _ es => some (st.put d (.lit (.int .i64 es.length)))
    | _ => match st.resH x with
      | some (r, p) => match st.slAt r p with
        | some (.sl _ _ es) => some (st.put d (.lit (.int .i64 es.length)))
        | _ => none
      | none => none) := rfl
@[go_sem] theorem s_lenB (P : Program) (d : Nat) (x : XO) (st : St) (K : St → Prop) : stepX P (.lenB d x) st K = onS (stepF (.lenB d x) st) K := rfl
@[go_sem] theorem f_ext (d : Nat) (x : XO) (i : Nat) (st : St) : stepF (.ext d x i) st = (match st.val x with
    | .tup cs => match cs[i]? with
      | some c => if c.cp = true then some (st.put d c) else none
      | none => none
    | _ => none) := rfl
@[go_sem] theorem s_ext (P : Program) (d : Nat) (x : XO) (i : Nat) (st : St) (K : St → Prop) : stepX P (.ext d x i) st K = onS (stepF (.ext d x i) st) K := rfl
@[go_sem] theorem f_extT (d : Nat) (r : Nat) (i : Nat) (st : St) : stepF (.extT d r i) st = (match (st r).v with
    | .tup cs => match cs[i]? with
      | some c => if d ≠ r then some (((st.put r .hole).put r (.tup (cs.set i .hole))).put d c) else none
      | none => none
    | _ => none) := rfl
@[go_sem] theorem s_extT (P : Program) (d : Nat) (r : Nat) (i : Nat) (st : St) (K : St → Prop) : stepX P (.extT d r i) st K = onS (stepF (.extT d r i) st) K := rfl
@[go_sem] theorem f_eqA (d : Nat) (neg : Bool) (ks : List Nat) (x : XO) (y : XO) (st : St) : stepF (.eqA d neg ks x y) st = (match (st.val x).litL with
    | some l1 => match (st.val y).litL with
      | some l2 => match eqvL ks l1 l2 with
        | some b => some (st.put d (.lit (.bool (if neg then !b else b))))
        | none => none
      | none => none
    | none => none) := rfl
@[go_sem] theorem s_eqA (P : Program) (d : Nat) (neg : Bool) (ks : List Nat) (x : XO) (y : XO) (st : St) (K : St → Prop) : stepX P (.eqA d neg ks x y) st K = onS (stepF (.eqA d neg ks x y) st) K := rfl
@[go_sem] theorem f_cvi (d : Nat) (k : IntKind) (k' : IntKind) (x : XO) (st : St) : stepF (.cvi d k k' x) st = (match st.val x with
    | .lit (.int k1 z) => if k1 = k' then some (st.put d (.lit (.int k (k.wrap z)))) else none
    | _ => none) := rfl
@[go_sem] theorem s_cvi (P : Program) (d : Nat) (k : IntKind) (k' : IntKind) (x : XO) (st : St) (K : St → Prop) : stepX P (.cvi d k k' x) st K = onS (stepF (.cvi d k k' x) st) K := rfl
@[go_sem] theorem f_b2s (d : Nat) (x : XO) (st : St) : stepF (.b2s d x) st = (match st.sv x with
    | some (n, es) => if n = 1 then match byteL es with
      | some l => some (st.put d (.lit (.string (ba l))))
      | none => none
      else none
    | none => none) := rfl
@[go_sem] theorem s_b2s (P : Program) (d : Nat) (x : XO) (st : St) (K : St → Prop) : stepX P (.b2s d x) st K = onS (stepF (.b2s d x) st) K := rfl
@[go_sem] theorem f_idx (d : Nat) (x : XO) (i : XO) (st : St) : stepF (.idx d x i) st = (match st.val x with
    | .lit (.string s) => match st.val i with
      | .lit (.int _ z) => if 0 ≤ z then if z < s.size then some (st.put d (.lit (.int .u8 (s.toList.getD z.toNat 0).toNat))) else none else none
      | _ => none
    | _ => none) := rfl
@[go_sem] theorem s_idx (P : Program) (d : Nat) (x : XO) (i : XO) (st : St) (K : St → Prop) : stepX P (.idx d x i) st K = onS (stepF (.idx d x i) st) K := rfl
@[go_sem] theorem f_slcS (d : Nat) (x : XO) (lo : Option XO) (hi : Option XO) (st : St) : stepF (.slcS d x lo hi) st = (match st.val x with
    | .lit (.string s) => match bnd s.size s.size (hi.map st.val) with
      | some h => match bnd h 0 (lo.map st.val) with
        | some l => some (st.put d (.lit (.string (s.extract l h))))
        | none => none
      | none => none
    | _ => none) := rfl
@[go_sem] theorem s_slcS (P : Program) (d : Nat) (x : XO) (lo : Option XO) (hi : Option XO) (st : St) (K : St → Prop) : stepX P (.slcS d x lo hi) st K = onS (stepF (.slcS d x lo hi) st) K := rfl
@[go_sem] theorem f_cutS (d : Nat) (n : Nat) (x : XO) (lo : Option XO) (hi : Option XO) (st : St) : stepF (.cutS d n x lo hi) st = (match st.val x with
    | .sl false m es => if m = n then match bnd es.length es.length (hi.map st.val) with
      | some h => match bnd h 0 (lo.map st.val) with
        | some l => some (st.put d (.sl false n ((es.take h).drop l)))
        | none => none
      | none => none
      else none
    | _ => none) := rfl
@[go_sem] theorem s_cutS (P : Program) (d : Nat) (n : Nat) (x : XO) (lo : Option XO) (hi : Option XO) (st : St) (K : St → Prop) : stepX P (.cutS d n x lo hi) st K = onS (stepF (.cutS d n x lo hi) st) K := rfl
@[go_sem] theorem f_cutT (d : Nat) (n : Nat) (q : Nat) (lo : Option XO) (hi : Option XO) (st : St) : stepF (.cutT d n q lo hi) st = (match (st q).v with
    | .sl true m es => if m = n then match bnd es.length es.length (hi.map st.val) with
      | some h => match bnd h 0 (lo.map st.val) with
        | some l => some ((st.put q .hole).put d (.sl true n ((es.take h).drop l)))
        | none => none
      | none => none
      else none
    | _ => none) := rfl
@[go_sem] theorem s_cutT (P : Program) (d : Nat) (n : Nat) (q : Nat) (lo : Option XO) (hi : Option XO) (st : St) (K : St → Prop) : stepX P (.cutT d n q lo hi) st K = onS (stepF (.cutT d n q lo hi) st) K := rfl
@[go_sem] theorem f_app (d : Nat) (n : Nat) (by_ : Nat) (x : XO) (y : XO) (st : St) : stepF (.app d n by_ x y) st = (match st.val x with
    | .sl true m es => match st.sv y with
      | some (m2, es2) => if m = n then if m2 = n then if esLeaf es2 = true then if (es.length + es2.length) * by_ ≤ 140737488355328 then if es.length + es2.length ≤ 9223372036854775807 then
          if esCp es2 = true then if XO.ne x y = true then some ((match x with | .t r => st.put r .hole | _ => st).put d (.sl true n (es ++ es2))) else none
          else match y with
            | .t q => match (st q).v with
              | .sl true _ _ => if XO.ne x (.t q) = true then some (((match x with | .t r => st.put r .hole | _ => st).put q .hole).put d (.sl true n (es ++ es2))) else none
              | _ => none
            | _ => none
        else none else none else none else none else none
      | none => none
    | _ => none) := rfl
@[go_sem] theorem s_app (P : Program) (d : Nat) (n : Nat) (by_ : Nat) (x : XO) (y : XO) (st : St) (K : St → Prop) : stepX P (.app d n by_ x y) st K = onS (stepF (.app d n by_ x y) st) K := rfl
@[go_sem] theorem f_bld (d : Nat) (zs : List V) (ps : List Prt) (st : St) : stepF (.bld d zs ps) st = (match bldF ps st zs with
    | some (st', acc) => some (st'.put d (.agg acc))
    | none => none) := rfl
@[go_sem] theorem s_bld (P : Program) (d : Nat) (zs : List V) (ps : List Prt) (st : St) (K : St → Prop) : stepX P (.bld d zs ps) st K = onS (stepF (.bld d zs ps) st) K := rfl
@[go_sem] theorem f_bldS (d : Nat) (k : Nat) (zs : List V) (ps : List Prt) (st : St) : stepF (.bldS d k zs ps) st = (match bldF ps st (List.replicate k zs).flatten with
    | some (st', acc) => some (st'.put d (.sl true zs.length (chunk zs.length k acc)))
    | none => none) := rfl
@[go_sem] theorem s_bldS (P : Program) (d : Nat) (k : Nat) (zs : List V) (ps : List Prt) (st : St) (K : St → Prop) : stepX P (.bldS d k zs ps) st K = onS (stepF (.bldS d k zs ps) st) K := rfl
@[go_sem] theorem f_mkS (d : Nat) (by_ : Nat) (zs : List V) (x : XO) (y : XO) (st : St) : stepF (.mkS d by_ zs x y) st = (match st.val x with
    | .lit (.int _ l) => match st.val y with
      | .lit (.int _ l2) => if 0 ≤ l then if l2 = l then if by_ * l.toNat ≤ 140737488355328 then if l ≤ 9223372036854775807 then some (st.put d (.sl true zs.length (List.replicate l.toNat zs))) else none else none else none else none
      | _ => none
    | _ => none) := rfl
@[go_sem] theorem s_mkS (P : Program) (d : Nat) (by_ : Nat) (zs : List V) (x : XO) (y : XO) (st : St) (K : St → Prop) : stepX P (.mkS d by_ zs x y) st K = onS (stepF (.mkS d by_ zs x y) st) K := rfl
@[go_sem] theorem s_callB (P : Program) (d f : Nat) (ys : List (XO × Nat)) (st : St) (K : St → Prop) : stepX P (.callB d f ys) st K = callBX P d f ys st K := rfl
@[go_sem] theorem s_callS (P : Program) (d f : Nat) (ys : List XO) (st : St) (K : St → Prop) : stepX P (.callS d f ys) st K = callSX P d f ys st K := rfl
@[go_sem] theorem s_nilq (P : Program) (d : Nat) (neg : Bool) (x : XO) (st : St) (K : St → Prop) : stepX P (.nilq d neg x) st K = nilX d neg x st K := rfl
-- (end of steps)

-- rows

@[go_sem] theorem frz_map {α : Type} (f : α → List V) (l : List α) : V.frz.goo (l.map f) = l.map fun x => V.frz.go (f x) := by
  induction l with
  | nil => rfl
  | cons x l ih => simp only [List.map_cons, V.frz.goo, ih]
@[go_sem] theorem na_map {α : Type} (f : α → List V) (l : List α) : V.na.goo (l.map f) = l.all fun x => V.na.go (f x) := by
  induction l with
  | nil => rfl
  | cons x l ih => simp only [List.map_cons, V.na.goo, ih, List.all_cons]
@[go_sem] theorem ns_map {α : Type} (f : α → List V) (l : List α) : V.noShr.goo (l.map f) = l.all fun x => V.noShr.go (f x) := by
  induction l with
  | nil => rfl
  | cons x l ih => simp only [List.map_cons, V.noShr.goo, ih, List.all_cons]
@[go_sem] theorem cp_map {α : Type} (f : α → List V) (l : List α) : esCp (l.map f) = l.all fun x => V.cp.go (f x) := by
  simp [esCp, List.all_map, Function.comp_def]
@[go_sem] theorem leaf_map {α : Type} (f : α → List V) (l : List α) : esLeaf (l.map f) = l.all fun x => (f x).all (·.leafOk) := by
  simp [esLeaf, List.all_map, Function.comp_def]
@[go_sem] theorem all_true {α : Type} (l : List α) : (l.all fun _ => true) = true := by simp
end
attribute [go_sem] V.lit.injEq Value.bool.injEq Value.int.injEq Value.string.injEq V.agg.injEq List.cons.injEq XO.ne val_t val_c val_nil put_v put_ver put_hv mod_v mod_ver mod_hv init_v init_ver init_hv ba_size ba_toList
attribute [go_sem] V.cp V.cp.go V.na V.na.go V.na.goo V.noShr V.noShr.go V.noShr.goo V.frz V.frz.go V.frz.goo V.cells V.leafOk Value.oneCell' V.elem V.setElem V.getR V.setR V.rest V.litL V.litL.go
attribute [go_sem] St.res St.resH St.good Al.short St.ptrAt St.hdrAt St.slAt St.view St.name St.bv St.bvL St.sv mkV padd bnd eqv eqvL bldF putAt chunk XEnd resV oneV vi vb vs vss vis
attribute [go_sem] List.getD_cons_zero List.getD_cons_succ Nat.reduceEqDiff if_true if_false Bool.not_false Bool.not_true true_and and_true List.length_map List.map_cons List.map_nil List.all_cons List.all_nil List.length_cons List.length_nil List.take_succ_cons List.take_zero List.drop_succ_cons List.drop_zero
attribute [go_sem] Nat.reduceAdd Nat.reduceLeDiff Nat.reduceMul Nat.reduceSub Nat.zero_add Nat.add_zero Nat.le_refl Nat.zero_le Bool.false_eq_true reduceCtorEq true_or or_true false_or or_false ne_eq not_false_eq_true not_true_eq_false decide_false decide_not
attribute [go_sem] Option.bind_some Option.map_some Option.some.injEq exists_eq_left' Bool.and_true Bool.true_and Bool.or_false Bool.false_or Bool.and_false Bool.false_and Bool.or_true Bool.true_or decide_true List.nil_append List.cons_append List.append_nil
end Go.Proofs.Ytfepabohinkpgaa.Vm
