/- Typed values: slices bear typed lists. -/
import Derived.Test.YtainknkfjekngaaDoorVm12
import Derived.Test.YtainknkfjekngaaDoorVm11d
namespace Go.Proofs.YtainknkfjekngaaDoor.Vm
open Go
set_option linter.unusedVariables false
set_option linter.unusedSimpArgs false

/-- The types of what a slice's elements are made of. 'own': the elements' slices are their owner's alone. -/
inductive ET where
  | int (k : IntKind)
  | str
  | bool
  | sl (own : Bool) (e : ET)
  | pair (a b : ET)
  | unit
  | rp (e : ET)
  | fn (g : Nat) (e : ET)
  | ho (own : Bool) (e : ET)
  | hl
  deriving DecidableEq

@[reducible] def ET.den : ET → Type
  | .int _ => Int
  | .str => List UInt8
  | .bool => Bool
  | .sl _ e => List e.den
  | .pair a b => a.den × b.den
  | .unit => Unit
  | .rp e => e.den
  | .fn _ e => e.den
  | .ho _ e => Option (List e.den)
  | .hl => Unit
def ET.wid : ET → Nat
  | .int _ | .str | .bool | .sl _ _ | .rp _ | .fn _ _ | .ho _ _ | .hl => 1
  | .pair a b => a.wid + b.wid
  | .unit => 0
def ET.enc : (e : ET) → e.den → List V
  | .int k, x => [.lit (.int k x)]
  | .str, x => [.lit (.string (ba x))]
  | .bool, x => [.lit (.bool x)]
  | .sl o e, x => [.sl o e.wid (x.map e.enc)]
  | .pair a b, x => a.enc x.1 ++ b.enc x.2
  | .unit, _ => []
  | .rp e, x => [.rp (e.enc x)]
  | .fn g e, x => [.fn g (e.enc x)]
  | .ho o e, x => [match x with | none => .hole | some l => .sl o e.wid (List.map e.enc l)]
  | .hl, _ => [.hole]
theorem enc_len : ∀ (e : ET) (x : e.den), (e.enc x).length = e.wid
  | .int _, _ | .str, _ | .bool, _ | .sl _ _, _ | .unit, _ | .rp _, _ | .fn _ _, _ | .ho _ _, _ | .hl, _ => rfl
  | .pair a b, x => by simp [ET.enc, ET.wid, enc_len a, enc_len b]

inductive SV where
  | int (k : IntKind) (n : Int)
  | str (s : List UInt8)
  | bool (b : Bool)
  | lit (v : Value)
  | hole
  | agg (cs : List SV)
  | tup (cs : List SV)
  | box (cs : List SV)
  | rp (cs : List SV)
  | al (x : Al)
  | sl (own : Bool) (e : ET) (l : List e.den)
  | nil (own : Bool) (n : Nat)
  | bld (T E : Nat) (s : List UInt8)
  | fn (g : Nat) (cs : List SV)
  | tl (x : Al) (n : Nat)
  deriving Inhabited

def SV.v : SV → V
  | .int k n => .lit (.int k n)
  | .str s => .lit (.string (ba s))
  | .bool b => .lit (.bool b)
  | .lit v => .lit v
  | .hole => .hole
  | .agg cs => .agg (go cs)
  | .tup cs => .tup (go cs)
  | .box cs => .box (go cs)
  | .rp cs => .rp (go cs)
  | .al x => .al x
  | .sl o e l => .sl o e.wid (l.map e.enc)
  | .nil o n => .sl o n []
  | .bld T E s => .bld T E s
  | .fn g cs => .fn g (go cs)
  | .tl x n => .tl x n
where go : List SV → List V
  | [] => []
  | c :: cs => c.v :: go cs
abbrev vl (cs : List SV) : List V := SV.v.go cs
theorem vl_map : ∀ cs : List SV, vl cs = cs.map SV.v
  | [] => rfl
  | c :: cs => by simp [vl, SV.v.go]; exact vl_map cs
theorem vl_len (cs : List SV) : (vl cs).length = cs.length := by rw [vl_map]; simp
theorem vl_app (a b : List SV) : vl (a ++ b) = vl a ++ vl b := by simp [vl_map]
theorem vl_take (a : List SV) (n : Nat) : vl (a.take n) = (vl a).take n := by simp [vl_map]
theorem vl_drop (a : List SV) (n : Nat) : vl (a.drop n) = (vl a).drop n := by simp [vl_map]
theorem vl_set (a : List SV) (n : Nat) (v : SV) : vl (a.set n v) = (vl a).set n v.v := by simp [vl_map]

def unp : (e : ET) → e.den → List SV
  | .int k, x => [.int k x]
  | .str, x => [.str x]
  | .bool, x => [.bool x]
  | .sl o e, x => [.sl o e x]
  | .pair a b, x => unp a x.1 ++ unp b x.2
  | .unit, _ => []
  | .rp e, x => [.rp (unp e x)]
  | .fn g e, x => [.fn g (unp e x)]
  | .ho o e, x => [match x with | none => .hole | some l => .sl o e l]
  | .hl, _ => [.hole]
theorem unp_v : ∀ (e : ET) (x : e.den), vl (unp e x) = e.enc x
  | .int _, _ | .str, _ | .bool, _ | .sl _ _, _ | .unit, _ => rfl
  | .pair a b, x => by simp [unp, ET.enc, vl_app, unp_v a, unp_v b]
  | .rp e, x => by simp only [unp, ET.enc, SV.v.go, SV.v]; rw [show SV.v.go (unp e x) = vl (unp e x) from rfl, unp_v e]
  | .fn g e, x => by simp only [unp, ET.enc, SV.v.go, SV.v]; rw [show SV.v.go (unp e x) = vl (unp e x) from rfl, unp_v e]
  | .ho o e, x => by cases x <;> rfl
  | .hl, _ => rfl

def castE {a b : ET} (h : a = b) (x : a.den) : b.den := h ▸ x
def castL {a b : ET} (h : a = b) (x : List a.den) : List b.den := h ▸ x
theorem castL_enc {a b : ET} (h : a = b) (x : List a.den) : (castL h x).map b.enc = x.map a.enc := by subst h; rfl

/-- Own slices in it may have been taken. -/
def ET.wide : ET → ET
  | .sl o e => .ho o e
  | .pair a b => .pair a.wide b.wide
  | e => e
def wd : (e : ET) → e.den → e.wide.den
  | .sl _ _, x => some x
  | .pair a b, x => (wd a x.1, wd b x.2)
  | .int _, x => x
  | .str, x => x
  | .bool, x => x
  | .unit, x => x
  | .rp _, x => x
  | .fn _ _, x => x
  | .ho _ _, x => x
  | .hl, x => x
/-- None is taken any more. -/
def nw : (e : ET) → e.wide.den → Option e.den
  | .sl _ _, x => x
  | .pair a b, x => match nw a x.1 with
    | some y => match nw b x.2 with
      | some z => some (y, z)
      | none => none
    | none => none
  | .int _, x => some x
  | .str, x => some x
  | .bool, x => some x
  | .unit, x => some x
  | .rp _, x => some x
  | .fn _ _, x => some x
  | .ho _ _, x => some x
  | .hl, x => some x
theorem wide_wid : ∀ e : ET, e.wide.wid = e.wid
  | .int _ | .str | .bool | .unit | .sl _ _ | .rp _ | .fn _ _ | .ho _ _ | .hl => rfl
  | .pair a b => by simp only [ET.wide, ET.wid, wide_wid a, wide_wid b]
theorem wd_enc : ∀ (e : ET) (x : e.den), e.wide.enc (wd e x) = e.enc x
  | .int _, _ | .str, _ | .bool, _ | .unit, _ | .sl _ _, _ | .rp _, _ | .fn _ _, _ | .ho _ _, _ | .hl, _ => rfl
  | .pair a b, x => by simp only [ET.wide, wd, ET.enc, wd_enc a, wd_enc b]
theorem nw_enc : ∀ (e : ET) (x : e.wide.den) (y : e.den), nw e x = some y → e.wide.enc x = e.enc y
  | .int _, _, _, h | .str, _, _, h | .bool, _, _, h | .unit, _, _, h | .rp _, _, _, h | .fn _ _, _, _, h | .ho _ _, _, _, h | .hl, _, _, h => by cases h; rfl
  | .sl _ _, _, _, h => by simp only [nw] at h; subst h; rfl
  | .pair a b, x, y, h => by
    simp only [nw] at h
    split at h
    · rename_i z hz
      split at h
      · rename_i z2 hz2
        cases h
        simp only [ET.wide, ET.enc, nw_enc a _ _ hz, nw_enc b _ _ hz2]
      · cases h
    · cases h
def mapO {α β : Type} (f : α → Option β) : List α → Option (List β)
  | [] => some []
  | x :: l => match f x with
    | some y => match mapO f l with
      | some r => some (y :: r)
      | none => none
    | none => none
theorem mapO_enc {α β γ : Type} {f : α → Option β} {g : α → γ} {h : β → γ} (hf : ∀ x y, f x = some y → g x = h y) : ∀ {l : List α} {r : List β}, mapO f l = some r → l.map g = r.map h
  | [], r, hr => by simp only [mapO] at hr; cases hr; rfl
  | x :: l, r, hr => by
    simp only [mapO] at hr
    split at hr
    · rename_i y hy
      split at hr
      · rename_i r' hr'
        cases hr
        rw [List.map_cons, List.map_cons, hf _ _ hy, mapO_enc hf hr']
      · cases hr
    · cases hr
/-- A list's elements turned from one type to another: the same; taken ones given back; whole ones as such as may be taken. -/
def cvL (a b : ET) (l : List a.den) : Option (List b.den) :=
  if h : a = b then some (castL h l)
  else if h : a = b.wide then mapO (nw b) (castL h l)
  else if h : a.wide = b then some (castL h (l.map (wd a)))
  else none
theorem cvL_enc {a b : ET} {l : List a.den} {r : List b.den} (h : cvL a b l = some r) : l.map a.enc = r.map b.enc ∧ a.wid = b.wid := by
  unfold cvL at h
  split at h
  · rename_i he; subst he; cases h; exact ⟨rfl, rfl⟩
  · split at h
    · rename_i he
      subst he
      exact ⟨mapO_enc (nw_enc b) h, wide_wid b⟩
    · split at h
      · rename_i he
        subst he
        cases h
        refine ⟨?_, (wide_wid a).symm⟩
        show _ = (l.map (wd a)).map a.wide.enc
        rw [List.map_map]
        congr 1
        funext x
        exact (wd_enc a x).symm
      · cases h
def pack : (e : ET) → List SV → Option (e.den × List SV)
  | .int k, cs => match cs with
    | .int k' n :: r => if k' = k then some (n, r) else none
    | _ => none
  | .str, cs => match cs with
    | .str s :: r => some (s, r)
    | _ => none
  | .bool, cs => match cs with
    | .bool s :: r => some (s, r)
    | _ => none
  | .sl o e, cs => match cs with
    | .sl o' e' l :: r => if o' = o then (cvL e' e l).bind fun l' => some (l', r) else none
    | .nil o' n :: r => if o' = o then if n = e.wid then some ([], r) else none else none
    | _ => none
  | .pair a b, cs => (pack a cs).bind fun p => (pack b p.2).bind fun q => some ((p.1, q.1), q.2)
  | .unit, cs => some ((), cs)
  | .rp e, cs => match cs with
    | .rp cs' :: r => (pack e cs').bind fun p => bif p.2.isEmpty then some (p.1, r) else none
    | _ => none
  | .fn g e, cs => match cs with
    | .fn g' cs' :: r => if g' = g then (pack e cs').bind fun p => bif p.2.isEmpty then some (p.1, r) else none
      else none
    | _ => none
  | .ho o e, cs => match cs with
    | .hole :: r => some (none, r)
    | .sl o' e' l :: r => if o' = o then (cvL e' e l).bind fun l' => some (some l', r) else none
    | .nil o' n :: r => if o' = o then if n = e.wid then some (some [], r) else none else none
    | _ => none
  | .hl, cs => match cs with
    | .hole :: r => some ((), r)
    | _ => none
theorem emp_v {cs : List SV} (h : cs.isEmpty = true) : vl cs = [] := by cases cs <;> simp at h ⊢; rfl
theorem pack_v : ∀ (e : ET) (cs : List SV) (x : e.den) (r : List SV), pack e cs = some (x, r) → vl cs = e.enc x ++ vl r
  | .int k, cs, x, r, h => by
    simp only [pack] at h
    split at h
    · split at h
      · rename_i hk; subst hk; cases h; rfl
      · cases h
    · cases h
  | .str, cs, x, r, h => by
    simp only [pack] at h
    split at h <;> cases h; rfl
  | .bool, cs, x, r, h => by
    simp only [pack] at h
    split at h <;> cases h; rfl
  | .sl o e, cs, x, r, h => by
    simp only [pack] at h
    split at h
    · split at h
      · rename_i ho; subst ho
        obtain ⟨l', hl, h⟩ := Option.bind_eq_some_iff.1 h
        cases h
        have := cvL_enc hl
        simp only [SV.v.go, SV.v, ET.enc, this.1, this.2, List.cons_append, List.nil_append]
      · cases h
    · split at h
      · rename_i ho; subst ho
        split at h
        · rename_i he; subst he; cases h; rfl
        · cases h
      · cases h
    · cases h
  | .pair a b, cs, x, r, h => by
    simp only [pack] at h
    obtain ⟨⟨y, r1⟩, h1, h⟩ := Option.bind_eq_some_iff.1 h
    obtain ⟨⟨z, r2⟩, h2, h⟩ := Option.bind_eq_some_iff.1 h
    cases h
    rw [pack_v a _ _ _ h1, pack_v b _ _ _ h2]; simp [ET.enc]
  | .unit, cs, x, r, h => by simp only [pack] at h; cases h; rfl
  | .rp e, cs, x, r, h => by
    simp only [pack] at h
    split at h
    · obtain ⟨⟨y, r1⟩, h1, h⟩ := Option.bind_eq_some_iff.1 h
      cases hr : r1.isEmpty with
      | false => rw [hr] at h; cases h
      | true =>
        rw [hr] at h; cases h
        have := pack_v e _ _ _ h1
        rw [emp_v hr] at this
        simp only [SV.v.go, List.append_nil] at this
        simp only [SV.v.go, SV.v, ET.enc, this, List.cons_append, List.nil_append]
    · cases h
  | .fn g e, cs, x, r, h => by
    simp only [pack] at h
    split at h
    · split at h
      · rename_i hg
        subst hg
        obtain ⟨⟨y, r1⟩, h1, h⟩ := Option.bind_eq_some_iff.1 h
        cases hr : r1.isEmpty with
        | false => rw [hr] at h; cases h
        | true =>
          rw [hr] at h; cases h
          have := pack_v e _ _ _ h1
          rw [emp_v hr] at this
          simp only [SV.v.go, List.append_nil] at this
          simp only [SV.v.go, SV.v, ET.enc, this, List.cons_append, List.nil_append]
      · cases h
    · cases h
  | .ho o e, cs, x, r, h => by
    simp only [pack] at h
    split at h
    · cases h; rfl
    · split at h
      · rename_i ho; subst ho
        obtain ⟨l', hl, h⟩ := Option.bind_eq_some_iff.1 h
        cases h
        have := cvL_enc hl
        simp only [SV.v.go, SV.v, ET.enc, this.1, this.2, List.cons_append, List.nil_append]
      · cases h
    · split at h
      · rename_i ho; subst ho
        split at h
        · rename_i he; subst he; cases h; rfl
        · cases h
      · cases h
    · cases h
  | .hl, cs, x, r, h => by
    simp only [pack] at h
    split at h
    · cases h; rfl
    · cases h
def pk (e : ET) (cs : List SV) : Option e.den := (pack e cs).bind fun p => bif p.2.isEmpty then some p.1 else none
theorem pk_v {e : ET} {cs : List SV} {x : e.den} (h : pk e cs = some x) : vl cs = e.enc x := by
  unfold pk at h
  obtain ⟨⟨y, r⟩, h1, h⟩ := Option.bind_eq_some_iff.1 h
  cases hr : r.isEmpty with
  | false => rw [hr] at h; cases h
  | true =>
    rw [hr] at h; cases h
    rw [pack_v _ _ _ _ h1, emp_v hr, List.append_nil]

-- copied freely

def ET.cp : ET → Bool
  | .int _ | .str | .bool | .unit | .rp _ | .hl => true
  | .fn _ e => e.cp
  | .sl o _ => !o
  | .ho o _ => !o
  | .pair a b => a.cp && b.cp
theorem cp_go_app (a b : List V) : V.cp.go (a ++ b) = (V.cp.go a && V.cp.go b) := by
  induction a with
  | nil => simp [V.cp.go]
  | cons x a ih => simp [V.cp.go, ih, Bool.and_assoc]
theorem enc_cp : ∀ (e : ET) (x : e.den), e.cp = true → V.cp.go (e.enc x) = true
  | .int _, _, _ | .str, _, _ | .bool, _, _ | .unit, _, _ | .rp _, _, _ | .hl, _, _ => rfl
  | .fn _ e, x, h => by simp only [ET.cp] at h; simp [ET.enc, V.cp.go, V.cp, enc_cp e x h]
  | .sl o _, _, h => by simp only [ET.cp] at h; simp [ET.enc, V.cp.go, V.cp, h]
  | .ho o _, x, h => by
    simp only [ET.cp] at h
    cases x with
    | none => rfl
    | some l => simp [ET.enc, V.cp.go, V.cp, h]
  | .pair a b, x, h => by
    simp only [ET.cp, Bool.and_eq_true] at h
    simp [ET.enc, cp_go_app, enc_cp a _ h.1, enc_cp b _ h.2]
def SV.cp : SV → Bool
  | .int .. | .str _ | .bool _ | .lit _ | .hole | .rp _ | .al _ | .tl _ _ => true
  | .sl o _ _ => !o
  | .nil o _ => !o
  | .agg cs | .tup cs | .fn _ cs => go cs
  | .box _ | .bld _ _ _ => false
where go : List SV → Bool
  | [] => true
  | c :: cs => c.cp && go cs
mutual
theorem SV.cp_v : ∀ v : SV, v.v.cp = v.cp
  | .int .. | .str _ | .bool _ | .lit _ | .hole | .rp _ | .al _ | .box _ | .bld _ _ _ | .tl _ _ => rfl
  | .sl _ _ _ | .nil _ _ => rfl
  | .agg cs => by simp only [SV.v, V.cp, SV.cp]; exact cp_vl cs
  | .tup cs => by simp only [SV.v, V.cp, SV.cp]; exact cp_vl cs
  | .fn _ cs => by simp only [SV.v, V.cp, SV.cp]; exact cp_vl cs
theorem cp_vl : ∀ cs : List SV, V.cp.go (vl cs) = SV.cp.go cs
  | [] => rfl
  | c :: cs => by simp only [SV.v.go, V.cp.go, SV.cp.go, SV.cp_v c]; rw [← cp_vl cs]
end

-- cells

def ET.lf : ET → Bool
  | .ho _ _ | .hl => false
  | .pair a b => a.lf && b.lf
  | _ => true
theorem enc_leaf : ∀ (e : ET) (x : e.den), e.lf = true → (e.enc x).all (·.leafOk) = true
  | .int _, _, _ | .str, _, _ | .bool, _, _ | .unit, _, _ | .sl _ _, _, _ | .rp _, _, _ | .fn _ _, _, _ => rfl
  | .ho _ _, _, h | .hl, _, h => by simp [ET.lf] at h
  | .pair a b, x, h => by
    simp only [ET.lf, Bool.and_eq_true] at h
    simp only [ET.enc, List.all_append, enc_leaf a _ h.1, enc_leaf b _ h.2, Bool.and_self]
theorem esLeaf_enc (e : ET) (l : List e.den) (h : e.lf = true) : esLeaf (l.map e.enc) = true := by
  simp [esLeaf]; intro x _; simpa using enc_leaf e x h
theorem esCp_enc (e : ET) (l : List e.den) (h : e.cp = true) : esCp (l.map e.enc) = true := by
  simp [esCp]; intro x _; exact enc_cp e x h
def SV.leafOk : SV → Bool
  | .int .. | .str _ | .bool _ | .box _ | .sl .. | .nil _ _ | .rp _ | .fn _ _ => true
  | .lit v => v.oneCell'
  | _ => false
theorem SV.leaf_v : ∀ v : SV, v.v.leafOk = v.leafOk
  | .int .. | .str _ | .bool _ | .lit _ | .hole | .rp _ | .al _ | .box _ | .sl .. | .nil _ _ | .agg _ | .tup _ | .bld _ _ _ | .fn _ _ | .tl _ _ => rfl
def allLeaf : List SV → Bool
  | [] => true
  | c :: cs => c.leafOk && allLeaf cs
theorem allLeaf_v : ∀ cs : List SV, (vl cs).all (·.leafOk) = allLeaf cs
  | [] => rfl
  | c :: cs => by simp only [SV.v.go, List.all_cons, SV.leaf_v, allLeaf]; rw [← allLeaf_v cs]
def SV.cells : SV → Option (List SV)
  | .agg cs => if allLeaf cs = true then some cs else none
  | v => if v.leafOk = true then some [v] else none
theorem SV.cells_v {v : SV} {cs : List SV} (h : v.cells = some cs) : v.v.cells = some (vl cs) := by
  cases v <;> simp only [SV.cells] at h <;> (split at h <;> cases h) <;> rename_i hh <;>
    first
      | (simp only [SV.v, V.cells]; rw [if_pos (by rw [allLeaf_v]; exact hh)])
      | (simp [SV.v, V.cells, V.leafOk, SV.v.go]; done)
      | (simp [SV.v, V.cells, V.leafOk, SV.v.go, Value.oneCell']; done)
      | (simp only [SV.v, V.cells, SV.v.go, V.leafOk]; exact if_pos hh)
      | (simp [SV.leafOk] at hh)

-- names

theorem na_go_app (a b : List V) : V.na.go (a ++ b) = (V.na.go a && V.na.go b) := by
  induction a with
  | nil => simp [V.na.go]
  | cons x a ih => simp [V.na.go, ih, Bool.and_assoc]
theorem na_goo_map {α : Type} (f : α → List V) (h : ∀ x, V.na.go (f x) = true) : ∀ l : List α, V.na.goo (l.map f) = true
  | [] => rfl
  | x :: l => by simp [V.na.goo, h x, na_goo_map f h l]
theorem enc_na : ∀ (e : ET) (x : e.den), V.na.go (e.enc x) = true
  | .int _, _ | .str, _ | .bool, _ | .unit, _ | .hl, _ => rfl
  | .sl o e, x => by simp [ET.enc, V.na.go, V.na, na_goo_map e.enc (enc_na e) x]
  | .rp e, x => by simp [ET.enc, V.na.go, V.na, enc_na e x]
  | .fn _ e, x => by simp [ET.enc, V.na.go, V.na, enc_na e x]
  | .ho o e, x => by
    cases x with
    | none => rfl
    | some l => simp [ET.enc, V.na.go, V.na, na_goo_map e.enc (enc_na e) l]
  | .pair a b, x => by simp [ET.enc, na_go_app, enc_na a, enc_na b]
def SV.na : SV → Bool
  | .int .. | .str _ | .bool _ | .lit _ | .hole | .sl .. | .nil _ _ | .bld _ _ _ => true
  | .agg cs | .tup cs | .box cs | .rp cs | .fn _ cs => go cs
  | .al _ | .tl _ _ => false
where go : List SV → Bool
  | [] => true
  | c :: cs => c.na && go cs
mutual
theorem SV.na_v : ∀ v : SV, v.v.na = v.na
  | .int .. | .str _ | .bool _ | .lit _ | .hole | .al _ | .nil _ _ | .bld _ _ _ | .tl _ _ => rfl
  | .sl o e l => by simp only [SV.v, V.na, SV.na]; exact na_goo_map e.enc (enc_na e) l
  | .agg cs => by simp only [SV.v, V.na, SV.na]; exact na_vl cs
  | .tup cs => by simp only [SV.v, V.na, SV.na]; exact na_vl cs
  | .box cs => by simp only [SV.v, V.na, SV.na]; exact na_vl cs
  | .rp cs => by simp only [SV.v, V.na, SV.na]; exact na_vl cs
  | .fn _ cs => by simp only [SV.v, V.na, SV.na]; exact na_vl cs
theorem na_vl : ∀ cs : List SV, V.na.go (vl cs) = SV.na.go cs
  | [] => rfl
  | c :: cs => by simp only [SV.v.go, V.na.go, SV.na.go, SV.na_v c]; rw [← na_vl cs]
end

-- nothing shared

def ET.ns : ET → Bool
  | .int _ | .str | .bool | .unit | .hl => true
  | .rp _ => false
  | .fn _ e => e.ns
  | .sl o e => o && e.ns
  | .ho o e => o && e.ns
  | .pair a b => a.ns && b.ns
theorem ns_go_app (a b : List V) : V.noShr.go (a ++ b) = (V.noShr.go a && V.noShr.go b) := by
  induction a with
  | nil => simp [V.noShr.go]
  | cons x a ih => simp [V.noShr.go, ih, Bool.and_assoc]
theorem ns_goo_map {α : Type} (f : α → List V) (h : ∀ x, V.noShr.go (f x) = true) : ∀ l : List α, V.noShr.goo (l.map f) = true
  | [] => rfl
  | x :: l => by simp [V.noShr.goo, h x, ns_goo_map f h l]
theorem enc_ns : ∀ (e : ET) (x : e.den), e.ns = true → V.noShr.go (e.enc x) = true
  | .int _, _, _ | .str, _, _ | .bool, _, _ | .unit, _, _ | .hl, _, _ => rfl
  | .sl o e, x, h => by
    simp only [ET.ns, Bool.and_eq_true] at h
    simp [ET.enc, V.noShr.go, V.noShr, h.1, ns_goo_map e.enc (fun y => enc_ns e y h.2) x]
  | .pair a b, x, h => by
    simp only [ET.ns, Bool.and_eq_true] at h
    simp [ET.enc, ns_go_app, enc_ns a _ h.1, enc_ns b _ h.2]
  | .rp _, _, h => by simp [ET.ns] at h
  | .ho o e, x, h => by
    simp only [ET.ns, Bool.and_eq_true] at h
    cases x with
    | none => rfl
    | some l => simp [ET.enc, V.noShr.go, V.noShr, h.1, ns_goo_map e.enc (fun y => enc_ns e y h.2) l]
  | .fn _ e, x, h => by simp [ET.enc, V.noShr.go, V.noShr, enc_ns e x h]
def SV.ns : SV → Bool
  | .int .. | .str _ | .bool _ | .lit _ | .hole | .bld _ _ _ => true
  | .nil o _ => o
  | .sl o e _ => o && e.ns
  | .agg cs | .tup cs | .box cs | .fn _ cs => go cs
  | .rp _ | .al _ | .tl _ _ => false
where go : List SV → Bool
  | [] => true
  | c :: cs => c.ns && go cs
mutual
theorem SV.ns_v : ∀ v : SV, v.ns = true → v.v.noShr = true
  | .int .., _ | .str _, _ | .bool _, _ | .lit _, _ | .hole, _ | .bld _ _ _, _ => rfl
  | .nil o n, h => by simp only [SV.ns] at h; subst h; rfl
  | .al _, h | .rp _, h | .tl _ _, h => by simp [SV.ns] at h
  | .sl o e l, h => by
    simp only [SV.ns, Bool.and_eq_true] at h
    simp only [SV.v, V.noShr, h.1, Bool.true_and]
    exact ns_goo_map e.enc (fun y => enc_ns e y h.2) l
  | .agg cs, h => by simp only [SV.v, V.noShr]; exact ns_vl cs h
  | .tup cs, h => by simp only [SV.v, V.noShr]; exact ns_vl cs h
  | .box cs, h => by simp only [SV.v, V.noShr]; exact ns_vl cs h
  | .fn _ cs, h => by simp only [SV.v, V.noShr]; exact ns_vl cs h
theorem ns_vl : ∀ cs : List SV, SV.ns.go cs = true → V.noShr.go (vl cs) = true
  | [], _ => rfl
  | c :: cs, h => by
    simp only [SV.ns.go, Bool.and_eq_true] at h
    simp only [SV.v.go, V.noShr.go, SV.ns_v c h.1, Bool.true_and]; exact ns_vl cs h.2
end

-- given up

def ET.frz : ET → ET
  | .sl _ e => .sl false e.frz
  | .ho _ e => .ho false e.frz
  | .pair a b => .pair a.frz b.frz
  | .fn g e => .fn g e.frz
  | e => e
theorem ET.frz_den : ∀ e : ET, e.frz.den = e.den
  | .int _ | .str | .bool | .unit | .rp _ | .hl => rfl
  | .fn _ e => by simp only [ET.frz, ET.den, ET.frz_den e]
  | .sl _ e => by simp only [ET.frz, ET.den, ET.frz_den e]
  | .ho _ e => by simp only [ET.frz, ET.den, ET.frz_den e]
  | .pair a b => by simp only [ET.frz, ET.den, ET.frz_den a, ET.frz_den b]
theorem ET.frz_wid : ∀ e : ET, e.frz.wid = e.wid
  | .int _ | .str | .bool | .unit | .sl _ _ | .rp _ | .fn _ _ | .ho _ _ | .hl => rfl
  | .pair a b => by simp only [ET.frz, ET.wid, ET.frz_wid a, ET.frz_wid b]
def frzD (e : ET) (x : e.den) : e.frz.den := cast (ET.frz_den e).symm x
def frzL (e : ET) (l : List e.den) : List e.frz.den := cast (by rw [ET.frz_den]) l
theorem frz_go_app (a b : List V) : V.frz.go (a ++ b) = V.frz.go a ++ V.frz.go b := by
  induction a with
  | nil => rfl
  | cons x a ih => simp [V.frz.go, ih]
theorem frz_goo_map {α : Type} (f : α → List V) : ∀ l : List α, V.frz.goo (l.map f) = l.map fun x => V.frz.go (f x)
  | [] => rfl
  | x :: l => by simp [V.frz.goo, frz_goo_map f l]
theorem cast_list {α β : Type} (h : α = β) (h' : List α = List β) (l : List α) : cast h' l = l.map (cast h) := by
  subst h
  have : (cast rfl : α → α) = id := by funext x; rfl
  rw [this]; simp
theorem frzL_map (e : ET) (l : List e.den) : frzL e l = l.map (frzD e) := cast_list _ _ l
theorem cast_opt {α β : Type} (h : α = β) (h' : Option α = Option β) (x : Option α) : cast h' x = x.map (cast h) := by
  subst h
  have : (cast rfl : α → α) = id := by funext x; rfl
  rw [this]; simp
theorem cast_pair {α α' β β' : Type} (h1 : α = α') (h2 : β = β') (h : (α × β) = (α' × β')) (x : α × β) : cast h x = (cast h1 x.1, cast h2 x.2) := by
  subst h1 h2; rfl
theorem frzD_enc : ∀ (e : ET) (x : e.den), e.frz.enc (frzD e x) = V.frz.go (e.enc x)
  | .int _, _ | .str, _ | .bool, _ | .unit, _ | .rp _, _ | .hl, _ => rfl
  | .fn g e, x => by
    have h1 : frzD (.fn g e) x = frzD e x := rfl
    rw [h1]
    simp only [ET.frz, ET.enc, V.frz.go, V.frz, frzD_enc e]
  | .sl o e, x => by
    have h1 : frzD (.sl o e) x = frzL e x := rfl
    rw [h1, frzL_map]
    simp only [ET.frz, ET.enc, V.frz.go, V.frz, frz_goo_map, List.map_map, ET.frz_wid]
    congr 3
    funext y
    exact frzD_enc e y
  | .ho o e, x => by
    have h1 : frzD (.ho o e) x = Option.map (frzL e) x := cast_opt _ _ x
    rw [h1]
    cases x with
    | none => rfl
    | some l =>
      show (ET.ho false e.frz).enc (some (frzL e l)) = _
      rw [frzL_map]
      simp only [ET.frz, ET.enc, V.frz.go, V.frz, frz_goo_map, List.map_map, ET.frz_wid]
      congr 3
      funext y
      exact frzD_enc e y
  | .pair a b, x => by
    have h1 : frzD (.pair a b) x = (frzD a x.1, frzD b x.2) := cast_pair _ _ _ x
    rw [h1]
    simp only [ET.frz, ET.enc, frz_go_app, frzD_enc a, frzD_enc b]
def SV.frz : SV → SV
  | .agg cs => .agg (go cs)
  | .tup cs => .tup (go cs)
  | .box cs => .rp (go cs)
  | .sl _ e l => .sl false e.frz (frzL e l)
  | .nil _ n => .nil false n
  | .bld _ _ _ => .hole
  | .tl _ _ => .hole
  | .fn g cs => .fn g (go cs)
  | v => v
where go : List SV → List SV
  | [] => []
  | c :: cs => c.frz :: go cs
mutual
theorem SV.frz_v : ∀ v : SV, v.frz.v = v.v.frz
  | .int .. | .str _ | .bool _ | .lit _ | .hole | .al _ | .nil _ _ | .rp _ | .bld _ _ _ | .tl _ _ => rfl
  | .sl o e l => by
    simp only [SV.frz, SV.v, V.frz, frz_goo_map, ET.frz_wid]
    rw [frzL_map, List.map_map]
    congr 2
    funext y
    exact frzD_enc e y
  | .agg cs => by simp only [SV.frz, SV.v, V.frz]; rw [← frz_vl cs]
  | .tup cs => by simp only [SV.frz, SV.v, V.frz]; rw [← frz_vl cs]
  | .fn _ cs => by simp only [SV.frz, SV.v, V.frz]; rw [← frz_vl cs]
  | .box cs => by simp only [SV.frz, SV.v, V.frz]; rw [← frz_vl cs]
theorem frz_vl : ∀ cs : List SV, vl (SV.frz.go cs) = V.frz.go (vl cs)
  | [] => rfl
  | c :: cs => by simp only [SV.frz.go, SV.v.go, V.frz.go, SV.frz_v c]; rw [← frz_vl cs]
end
end Go.Proofs.YtainknkfjekngaaDoor.Vm
