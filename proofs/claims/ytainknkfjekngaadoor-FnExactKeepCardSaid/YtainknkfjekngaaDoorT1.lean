/- The typed frame; how its places are read and turned. -/
import Derived.Test.YtainknkfjekngaaDoorT0
namespace Go.Proofs.YtainknkfjekngaaDoor.Vm
open Go
set_option linter.unusedVariables false
set_option linter.unusedSimpArgs false

structure SCell where
  v : SV
  ver : Nat
  hv : Nat
abbrev TSt := List (Nat × SCell)
def TSt.get : TSt → Nat → SCell
  | [], _ => ⟨.hole, 1, 0⟩
  | (d, c) :: l, i => bif Nat.beq i d then c else TSt.get l i
def TSt.enc (ts : TSt) : St := fun i => ⟨(ts.get i).v.v, (ts.get i).ver, (ts.get i).hv⟩
def TSt.put (ts : TSt) (d : Nat) (v : SV) : TSt := (d, ⟨v, (ts.get d).ver + 1, (ts.get d).hv + 1⟩) :: ts
def TSt.mod (ts : TSt) (d : Nat) (v : SV) : TSt := (d, ⟨v, (ts.get d).ver, (ts.get d).hv + 1⟩) :: ts
def TSt.tk (ts : TSt) (d : Nat) (v : SV) : TSt := (d, ⟨v, (ts.get d).ver, (ts.get d).hv⟩) :: ts
theorem get_cons (ts : TSt) (d i : Nat) (c : SCell) : TSt.get ((d, c) :: ts) i = if i = d then c else ts.get i := by
  simp only [TSt.get]
  by_cases h : i = d
  · subst h; simp
  · rw [if_neg h]
    have : Nat.beq i d = false := by
      cases hb : Nat.beq i d with
      | false => rfl
      | true => exact absurd (Nat.eq_of_beq_eq_true hb) h
    rw [this]; rfl
theorem enc_put (ts : TSt) (d : Nat) (v : SV) : (ts.put d v).enc = ts.enc.put d v.v := by
  funext i
  simp only [TSt.enc, TSt.put, St.put, get_cons]
  split <;> rfl
theorem enc_mod (ts : TSt) (d : Nat) (v : SV) : (ts.mod d v).enc = ts.enc.mod d v.v := by
  funext i
  simp only [TSt.enc, TSt.mod, St.mod, get_cons]
  split <;> rfl
theorem enc_tk (ts : TSt) (d : Nat) (v : SV) : (ts.tk d v).enc = ts.enc.tk d v.v := by
  funext i
  simp only [TSt.enc, TSt.tk, St.tk, get_cons]
  split <;> rfl
theorem enc_v (ts : TSt) (i : Nat) : (ts.enc i).v = (ts.get i).v.v := rfl
theorem enc_ver (ts : TSt) (i : Nat) : (ts.enc i).ver = (ts.get i).ver := rfl
theorem enc_hv (ts : TSt) (i : Nat) : (ts.enc i).hv = (ts.get i).hv := rfl

structure SUpd where
  t : Nat
  put : UK
  v : SV
def SUpd.enc (u : SUpd) : Upd := ⟨u.t, u.put, u.v.v⟩
def TSt.upd (ts : TSt) (u : SUpd) : TSt := match u.put with
  | .pu => ts.put u.t u.v
  | .mo => ts.mod u.t u.v
  | .qu => ts.tk u.t u.v
def TSt.upds : TSt → List SUpd → TSt
  | ts, [] => ts
  | ts, u :: l => TSt.upds (ts.upd u) l
theorem enc_upd (ts : TSt) (u : SUpd) : (ts.upd u).enc = ts.enc.upd u.enc := by
  obtain ⟨t, p, v⟩ := u
  cases p
  · exact enc_put ts t v
  · exact enc_mod ts t v
  · exact enc_tk ts t v
theorem enc_upds : ∀ (us : List SUpd) (ts : TSt), (ts.upds us).enc = ts.enc.upds (us.map SUpd.enc)
  | [], _ => rfl
  | u :: us, ts => by
    simp only [TSt.upds, List.map_cons, St.upds]
    rw [enc_upds us, enc_upd]

def SV.ofC : Value → SV
  | .int k n => .int k n
  | .string s => .str s.data.toList
  | .bool b => .bool b
  | v => .lit v
theorem ofC_v (v : Value) : (SV.ofC v).v = .lit v := by
  cases v <;> rfl
def TSt.val (ts : TSt) : XO → SV
  | .t n => (ts.get n).v
  | .c v => .ofC v
  | .nil n => .nil true n
theorem enc_val (ts : TSt) (x : XO) : ts.enc.val x = (ts.val x).v := by
  cases x with
  | t n => rfl
  | c v => exact (ofC_v v).symm
  | nil n => rfl

theorem cond_if' {α : Type} (b : Bool) (x y : α) : (bif b then x else y) = if b = true then x else y := by cases b <;> rfl
theorem beq_dec (a b : Nat) : Nat.beq a b = decide (a = b) := by
  by_cases h : a = b
  · subst h; simp
  · rw [decide_eq_false h]
    cases hb : Nat.beq a b with
    | false => rfl
    | true => exact absurd (Nat.eq_of_beq_eq_true hb) h
def Al.sh (x : Al) : Bool := match x.ptr, x.path with
  | true, [_] => true
  | true, [] => true
  | _, _ => false
theorem sh_short (x : Al) : x.sh = x.short := by
  obtain ⟨p, r, l, a, b⟩ := x
  cases p <;> match l with
    | [] => rfl
    | [_] => rfl
    | _ :: _ :: _ => simp [Al.sh, Al.short, Al.pth, Al.bx]
def SV.isBx : SV → Bool
  | .box _ => true
  | _ => false
theorem isBx_v (v : SV) : v.v.isBx = v.isBx := by cases v <;> rfl
/-- Nothing in it may have been taken. -/
def ET.hf : ET → Bool
  | .int _ | .str | .bool | .unit => true
  | .sl _ e | .rp e | .fn _ e => e.hf
  | .pair a b => a.hf && b.hf
  | .ho _ _ | .hl => false
def nthS : List SV → Nat → Option SV
  | [], _ => none
  | c :: _, 0 => some c
  | _ :: cs, i + 1 => nthS cs i
theorem nthS_v : ∀ {cs : List SV} {i : Nat} {c : SV}, nthS cs i = some c → (vl cs)[i]? = some c.v
  | [], _, _, h => by simp [nthS] at h
  | c :: cs, 0, _, h => by simp only [nthS] at h; cases h; rfl
  | c :: cs, i + 1, _, h => by simp only [nthS] at h; simpa [SV.v.go] using nthS_v h

theorem nthS_none : ∀ {cs : List SV} {i : Nat}, nthS cs i = none → (vl cs)[i]? = none
  | [], _, _ => by simp [SV.v.go]
  | c :: cs, 0, h => by simp [nthS] at h
  | c :: cs, i + 1, h => by simp only [nthS] at h; simpa [SV.v.go] using nthS_none h
def SV.nh : SV → Bool
  | .hole => false
  | _ => true
theorem nh_v (v : SV) : v.v.nh = v.nh := by cases v <;> rfl
def pokS : SV → List (Nat × Nat) → Bool
  | v, (i, k) :: q :: p => match v with
    | .box cs => bif Nat.beq i 0 then (match nthS cs k with
      | some c => c.nh && pokS c (q :: p)
      | none => true) else true
    | .sl true e l => bif e.hf then true else (match l[i]? with
      | some x => match nthS (unp e x) k with
        | some c => c.nh && pokS c (q :: p)
        | none => true
      | none => true)
    | _ => true
  | _, _ => true
theorem pok_noelem {v : V} (h : ∀ i, v.elem i = none) (p : List (Nat × Nat)) : v.pok p = true := by
  match p with
  | [] => rfl
  | [_] => rfl
  | (i, k) :: q :: p => simp only [V.pok, h]
theorem enc_mem : ∀ {e : ET} {x : e.den} {c : V}, e.hf = true → c ∈ e.enc x → (∃ o e' l, e'.hf = true ∧ c = (SV.sl o e' l).v) ∨ (c.nh = true ∧ ∀ i, c.elem i = none)
  | .int _, _, _, _, h | .str, _, _, _, h | .bool, _, _, _, h | .rp _, _, _, _, h | .fn _ _, _, _, _, h => by
    simp only [ET.enc, List.mem_singleton] at h; subst h; exact .inr ⟨rfl, fun _ => rfl⟩
  | .unit, _, _, _, h => by simp [ET.enc] at h
  | .sl o e, x, c, hf, h => by
    simp only [ET.enc, List.mem_singleton] at h
    exact .inl ⟨o, e, x, hf, h⟩
  | .pair a b, x, c, hf, h => by
    simp only [ET.hf, Bool.and_eq_true] at hf
    simp only [ET.enc, List.mem_append] at h
    exact h.elim (enc_mem hf.1) (enc_mem hf.2)
  | .ho _ _, _, _, hf, _ | .hl, _, _, hf, _ => by simp [ET.hf] at hf
theorem pok_hf : ∀ (p : List (Nat × Nat)) {e : ET} (o : Bool) (l : List e.den), e.hf = true → (SV.sl o e l).v.pok p = true
  | [], _, _, _, _ => rfl
  | [_], _, _, _, _ => rfl
  | (i, k) :: q :: p, e, o, l, h => by
    simp only [V.pok]
    split
    · rename_i cs hcs
      split
      · rename_i c hc
        have hm : c ∈ cs := List.mem_of_getElem? hc
        have hx : ∃ x, cs = e.enc x := by
          simp only [SV.v, V.elem] at hcs
          split at hcs
          · rw [List.getElem?_map] at hcs
            cases hl : l[i]? with
            | none => rw [hl] at hcs; cases hcs
            | some x => rw [hl] at hcs; cases hcs; exact ⟨x, rfl⟩
          · cases hcs
        obtain ⟨x, rfl⟩ := hx
        rcases enc_mem h hm with ⟨o', e', l', h', rfl⟩ | ⟨h1, h2⟩
        · rw [pok_hf (q :: p) o' l' h']; rfl
        · rw [pok_noelem h2, h1]; rfl
      · rfl
    · rfl
theorem pokS_v : ∀ (p : List (Nat × Nat)) (v : SV), v.v.pok p = pokS v p
  | [], _ => by simp [V.pok, pokS]
  | [_], _ => by simp [V.pok, pokS]
  | (i, k) :: q :: p, v => by
    cases v with
    | box cs =>
      simp only [SV.v, V.pok, pokS, V.elem, cond_if', beq_dec]
      by_cases hi : i = 0
      · rw [if_pos hi, decide_eq_true hi]
        simp only [if_true]
        cases hn : nthS cs k with
        | none => rw [show SV.v.go cs = vl cs from rfl, nthS_none hn]
        | some c => rw [show SV.v.go cs = vl cs from rfl, nthS_v hn]; simp only [nh_v, pokS_v (q :: p) c]
      · rw [if_neg hi, decide_eq_false hi]; rfl
    | sl o e l =>
      cases o with
      | false => simp only [SV.v, V.pok, pokS, V.elem]; rfl
      | true =>
        simp only [pokS, cond_if']
        by_cases hf : e.hf = true
        · rw [if_pos hf]; exact pok_hf _ true l hf
        · rw [if_neg hf]
          simp only [SV.v, V.pok, V.elem, if_true, List.getElem?_map]
          cases l[i]? with
          | none => rfl
          | some x =>
            simp only [Option.map_some]
            rw [← unp_v]
            cases hn : nthS (unp e x) k with
            | none => rw [nthS_none hn]
            | some c => rw [nthS_v hn]; simp only [nh_v, pokS_v (q :: p) c]
    | nil o n =>
      simp only [SV.v, V.pok, pokS, V.elem]
      cases o <;> simp
    | _ => rfl
def TSt.good (ts : TSt) (x : Al) : Bool := Nat.beq x.ver (ts.get x.root).ver && ((x.sh || Nat.beq x.hv (ts.get x.root).hv) && ((!x.bx || (ts.get x.root).v.isBx) && pokS (ts.get x.root).v x.pth))
theorem enc_good (ts : TSt) (x : Al) : ts.enc.good x = ts.good x := by
  simp only [St.good, TSt.good, beq_dec, sh_short, enc_v, ← isBx_v, ← pokS_v]; rfl
def TSt.res (ts : TSt) : XO → Option (Nat × List (Nat × Nat))
  | .t r => match (ts.get r).v with
    | .box _ => some (r, [(0, 0)])
    | .al x => bif x.ptr && ts.good x then some (x.root, x.pth) else none
    | _ => none
  | _ => none
def TSt.resH (ts : TSt) : XO → Option (Nat × List (Nat × Nat))
  | .t r => match (ts.get r).v with
    | .sl true _ _ => some (r, [])
    | .nil true _ => some (r, [])
    | .al x => bif !x.ptr && ts.good x then some (x.root, x.path) else none
    | _ => none
  | _ => none
theorem cond_if {α : Type} (b : Bool) (x y : α) : (bif b then x else y) = if b = true then x else y := by cases b <;> rfl
theorem enc_res (ts : TSt) (x : XO) : ts.enc.res x = ts.res x := by
  cases x with
  | t r =>
    simp only [St.res, TSt.res, enc_v, enc_good, cond_if]
    cases (ts.get r).v <;> rfl
  | _ => rfl
theorem enc_resH (ts : TSt) (x : XO) : ts.enc.resH x = ts.resH x := by
  cases x with
  | t r =>
    simp only [St.resH, TSt.resH, enc_v, enc_good, cond_if]
    cases h : (ts.get r).v with
    | sl o e l => cases o <;> rfl
    | nil o n => cases o <;> rfl
    | _ => rfl
  | _ => rfl
def TSt.ptrAt (ts : TSt) (r : Nat) (p : List (Nat × Nat)) : SV := .al ⟨true, r, p, (ts.get r).ver, (ts.get r).hv⟩
def TSt.hdrAt (ts : TSt) (r : Nat) (p : List (Nat × Nat)) : SV := .al ⟨false, r, p, (ts.get r).ver, (ts.get r).hv⟩

section
variable {R : Type} {r0 : R}

/-- What an element is made of; a part that may have been taken is told by cases. -/
def unpK : (e : ET) → e.den → (List SV → Option R) → Option R
  | .ho o e, x, k => Option.elim x (k [.hole]) fun l => k [.sl o e l]
  | .pair a b, x, k => unpK a x.1 fun c1 => unpK b x.2 fun c2 => k (c1 ++ c2)
  | e, x, k => k (unp e x)
theorem unpK_eq : ∀ (e : ET) (x : e.den) (k : List SV → Option R), unpK e x k = k (unp e x)
  | .int _, _, _ | .str, _, _ | .bool, _, _ | .unit, _, _ | .hl, _, _ | .sl _ _, _, _ | .rp _, _, _ | .fn _ _, _, _ => rfl
  | .ho o e, x, k => by cases x <;> rfl
  | .pair a b, x, k => by simp only [unpK, unpK_eq a, unpK_eq b, unp]
def elemK (v : SV) (i : Nat) (k : List SV → Option R) : Option R :=
  match v with
  | .box cs => bif Nat.beq i 0 then k cs else none
  | .sl true e l => (l[i]?).bind fun x => unpK e x k
  | _ => none
theorem elemK_v {v : SV} {i : Nat} {k : List SV → Option R} (h : elemK v i k = some r0) : ∃ cs, v.v.elem i = some (vl cs) ∧ k cs = some r0 := by
  unfold elemK at h
  split at h
  · rw [cond_if] at h
    split at h
    · rename_i hi
      have hi0 : i = 0 := Nat.eq_of_beq_eq_true hi
      subst hi0
      exact ⟨_, rfl, h⟩
    · cases h
  · rename_i e l
    obtain ⟨x, hx, h⟩ := Option.bind_eq_some_iff.1 h
    rw [unpK_eq] at h
    exact ⟨_, by simp [SV.v, V.elem, hx, unp_v], h⟩
  · cases h

def getK (n : Nat) : SV → List (Nat × Nat) → (List SV → Option R) → Option R
  | _, [], _ => none
  | v, [(i, j)], k => elemK v i fun cs => bif Nat.ble (j + n) cs.length then k ((cs.drop j).take n) else none
  | v, (i, j) :: q :: p, k => elemK v i fun cs => match nthS cs j with
    | some c => getK n c (q :: p) k
    | none => none
theorem getK_v {n : Nat} : ∀ {p : List (Nat × Nat)} {v : SV} {k : List SV → Option R}, getK n v p k = some r0 → ∃ cs, v.v.getR n p = some (vl cs) ∧ k cs = some r0
  | [], _, _, h => by simp [getK] at h
  | [(i, j)], v, k, h => by
    simp only [getK] at h
    obtain ⟨cs, h1, h2⟩ := elemK_v h
    rw [cond_if] at h2
    split at h2
    · rename_i hb
      have hb' := Nat.le_of_ble_eq_true hb
      exact ⟨_, by simp only [V.getR, h1, Option.bind_some, vl_len]; rw [if_pos hb', vl_take, vl_drop], h2⟩
    · cases h2
  | (i, j) :: q :: p, v, k, h => by
    simp only [getK] at h
    obtain ⟨cs, h1, h2⟩ := elemK_v h
    split at h2
    · rename_i c hc
      obtain ⟨cs', h3, h4⟩ := getK_v h2
      exact ⟨cs', by simp only [V.getR, h1, Option.bind_some, nthS_v hc, h3], h4⟩
    · cases h2

/-- An element's parts are turned. -/
def updE (v : SV) (i : Nat) (g : List SV → (List SV → Option R) → Option R) (k : SV → Option R) : Option R :=
  match v with
  | .box cs => bif Nat.beq i 0 then g cs fun cs' => k (.box cs') else none
  | .sl true e l => (l[i]?).bind fun x => unpK e x fun cs => g cs fun cs' => match pk e cs' with
    | some x' => k (.sl true e (l.set i x'))
    | none => match pk e.wide cs' with
      | some x' => k (.sl true e.wide ((l.map (wd e)).set i x'))
      | none => none
  | _ => none
theorem updE_v {v : SV} {i : Nat} {g : List SV → (List SV → Option R) → Option R} {k : SV → Option R} (h : updE v i g k = some r0) :
    ∃ cs k', v.v.elem i = some (vl cs) ∧ g cs k' = some r0 ∧ ∀ cs', k' cs' = some r0 → ∃ v', k v' = some r0 ∧ v.v.setElem i (vl cs') = v'.v := by
  unfold updE at h
  split at h
  · rw [cond_if] at h
    split at h
    · rename_i hi
      have hi0 : i = 0 := Nat.eq_of_beq_eq_true hi
      subst hi0
      exact ⟨_, _, rfl, h, fun cs' h' => ⟨_, h', rfl⟩⟩
    · cases h
  · rename_i e l
    obtain ⟨x, hx, h⟩ := Option.bind_eq_some_iff.1 h
    rw [unpK_eq] at h
    refine ⟨_, _, by simp [SV.v, V.elem, hx, unp_v], h, fun cs' h' => ?_⟩
    split at h'
    · rename_i x' hp
      exact ⟨_, h', by simp only [SV.v, V.setElem]; rw [pk_v hp, List.map_set]⟩
    · split at h'
      · rename_i x' hp
        refine ⟨_, h', ?_⟩
        simp only [SV.v, V.setElem]
        rw [pk_v hp, List.map_set, List.map_map, wide_wid]
        congr 3
        funext y
        exact (wd_enc e y).symm
      · cases h'
  · cases h

/-- A place's cells are turned by f; what they were, and the whole anew. -/
def updK (n : Nat) (f : List SV → Option (List SV)) : SV → List (Nat × Nat) → (List SV → SV → Option R) → Option R
  | _, [], _ => none
  | v, [(i, j)], k => updE v i (fun cs k' => bif Nat.ble (j + n) cs.length then (match f ((cs.drop j).take n) with
      | some ys => bif Nat.beq ys.length n then k' (cs.take j ++ (ys ++ cs.drop (j + n))) else none
      | none => none) else none) (fun v' => getK n v [(i, j)] fun cs => k cs v')
  | v, (i, j) :: q :: p, k => updE v i (fun cs k' => match nthS cs j with
      | some c => updK n f c (q :: p) fun old c' => k' (cs.set j c')
      | none => none) (fun v' => getK n v ((i, j) :: q :: p) fun cs => k cs v')
theorem updK_v {n : Nat} {f : List SV → Option (List SV)} : ∀ {p : List (Nat × Nat)} {v : SV} {k : List SV → SV → Option R}, updK n f v p k = some r0 →
    ∃ cs ys v', v.v.getR n p = some (vl cs) ∧ (∀ cs0, vl cs0 = vl cs → f cs0 = f cs ∨ True) ∧ (∃ cs1, vl cs1 = vl cs ∧ f cs1 = some ys) ∧ ys.length = n ∧ v.v.setR p (vl ys) = v'.v ∧ k cs v' = some r0
  | [], _, _, h => by simp [updK] at h
  | [(i, j)], v, k, h => by
    simp only [updK] at h
    obtain ⟨cs, k', h1, h2, h3⟩ := updE_v h
    rw [cond_if] at h2
    split at h2 <;> try (cases h2; done)
    rename_i hb
    have hb' := Nat.le_of_ble_eq_true hb
    split at h2 <;> try (cases h2; done)
    rename_i ys hys
    rw [cond_if] at h2
    split at h2 <;> try (cases h2; done)
    rename_i hl
    have hl' := Nat.eq_of_beq_eq_true hl
    obtain ⟨v', h4, h5⟩ := h3 _ h2
    obtain ⟨cs2, h6, h7⟩ := getK_v h4
    have h8 : vl cs2 = vl ((cs.drop j).take n) := by
      have : v.v.getR n [(i, j)] = some (((vl cs).drop j).take n) := by
        simp only [V.getR, h1, Option.bind_some, vl_len]; rw [if_pos hb']
      rw [h6] at this
      rw [vl_take, vl_drop]; exact Option.some.inj this
    refine ⟨cs2, ys, v', h6, fun _ _ => .inr trivial, ⟨_, h8.symm, hys⟩, hl', ?_, h7⟩
    rw [← h5]
    simp only [V.setR, h1, vl_app, vl_take, vl_drop, vl_len, hl']
  | (i, j) :: q :: p, v, k, h => by
    simp only [updK] at h
    obtain ⟨cs, k', h1, h2, h3⟩ := updE_v h
    split at h2 <;> try (cases h2; done)
    rename_i c hc
    obtain ⟨cs2, ys, c', g1, _, g3, g4, g5, g6⟩ := updK_v h2
    obtain ⟨v', h4, h5⟩ := h3 _ g6
    obtain ⟨cs3, h6, h7⟩ := getK_v h4
    have h8 : vl cs3 = vl cs2 := by
      have : v.v.getR n ((i, j) :: q :: p) = some (vl cs2) := by
        simp only [V.getR, h1, Option.bind_some, nthS_v hc, g1]
      rw [h6] at this; exact Option.some.inj this
    obtain ⟨cs1, g7, g8⟩ := g3
    refine ⟨cs3, ys, v', h6, fun _ _ => .inr trivial, ⟨cs1, by rw [g7, h8], g8⟩, g4, ?_, h7⟩
    rw [← h5]
    simp only [V.setR, h1, nthS_v hc, g5, vl_set]

def TSt.slK (ts : TSt) (r : Nat) (p : List (Nat × Nat)) (k : SV → Option R) : Option R :=
  match p with
  | [] => k (ts.get r).v
  | q :: p => getK 1 (ts.get r).v (q :: p) fun cs => match cs with
    | [c] => k c
    | _ => none
theorem slK_v {ts : TSt} {r : Nat} {p : List (Nat × Nat)} {k : SV → Option R} (h : ts.slK r p k = some r0) : ∃ c, ts.enc.slAt r p = some c.v ∧ k c = some r0 := by
  cases p with
  | nil => exact ⟨_, rfl, h⟩
  | cons q p =>
    simp only [TSt.slK] at h
    obtain ⟨cs, h1, h2⟩ := getK_v h
    split at h2
    · exact ⟨_, by simp only [St.slAt, enc_v, h1]; rfl, h2⟩
    · cases h2

def TSt.view (ts : TSt) (r : Nat) (p : List (Nat × Nat)) : Nat → List SV → List SV
  | _, [] => []
  | j, v :: vs => (bif v.cp then v else match v with
    | .sl true _ _ => ts.hdrAt r (padd p j)
    | .nil true _ => ts.hdrAt r (padd p j)
    | _ => .hole) :: TSt.view ts r p (j + 1) vs
theorem view_v (ts : TSt) (r : Nat) (p : List (Nat × Nat)) : ∀ (cs : List SV) (j : Nat), vl (ts.view r p j cs) = ts.enc.view r p j (vl cs)
  | [], _ => rfl
  | v :: vs, j => by
    simp only [TSt.view, SV.v.go, St.view, SV.cp_v, cond_if]
    congr 1
    · split
      · rfl
      · cases v with
        | sl o e l => cases o <;> rfl
        | nil o n => cases o <;> rfl
        | _ => rfl
    · exact view_v ts r p vs (j + 1)
def TSt.name (ts : TSt) (r : Nat) : Option SV :=
  match (ts.get r).v with
  | .box _ => some (.al ⟨true, r, [(0, 0)], (ts.get r).ver, (ts.get r).hv⟩)
  | .sl true _ _ => some (.al ⟨false, r, [], (ts.get r).ver, (ts.get r).hv⟩)
  | .nil true _ => some (.al ⟨false, r, [], (ts.get r).ver, (ts.get r).hv⟩)
  | .bld _ _ _ => some (.al ⟨false, r, [], (ts.get r).ver, (ts.get r).hv⟩)
  | _ => none
theorem name_v (ts : TSt) (r : Nat) : ts.enc.name r = (ts.name r).map SV.v := by
  simp only [St.name, TSt.name, enc_v]
  cases h : (ts.get r).v with
  | sl o e l => cases o <;> rfl
  | nil o n => cases o <;> rfl
  | _ => rfl

/-- A value as a closure keeps it. -/
def TSt.nmv (ts : TSt) : XO → SV
  | .t r => match ts.name r with
    | some v0 => v0
    | none => (ts.get r).v
  | x => ts.val x
theorem nmv_v (ts : TSt) (x : XO) : ts.enc.nmv x = (ts.nmv x).v := by
  cases x with
  | t r =>
    simp only [St.nmv, TSt.nmv, name_v]
    cases ts.name r <;> rfl
  | c v => exact enc_val ts (.c v)
  | nil n => rfl
theorem nmvs_v (ts : TSt) (ys : List XO) : ys.map ts.enc.nmv = vl (ys.map ts.nmv) := by
  rw [vl_map, List.map_map]
  exact List.map_congr_left fun y _ => nmv_v ts y
/-- The slice that an operand holds or names. -/
def isSl : SV → Bool
  | .sl _ _ _ | .nil _ _ => true
  | _ => false
def TSt.svK (ts : TSt) (x : XO) (k : SV → Option R) : Option R :=
  match ts.val x with
  | .sl o e l => k (.sl o e l)
  | .nil o n => k (.nil o n)
  | _ => match ts.resH x with
    | some (r, p) => ts.slK r p fun s => bif isSl s then k s else none
    | none => none
theorem svK_v {ts : TSt} {x : XO} {k : SV → Option R} (h : ts.svK x k = some r0) : ∃ s o n es, s.v = .sl o n es ∧ isSl s = true ∧ ts.enc.sv x = some (n, es) ∧ k s = some r0 := by
  unfold TSt.svK at h
  split at h
  · rename_i o e l hv
    exact ⟨_, _, _, _, rfl, rfl, by simp [St.sv, enc_val, hv, SV.v], h⟩
  · rename_i o n hv
    exact ⟨_, _, _, _, rfl, rfl, by simp [St.sv, enc_val, hv, SV.v], h⟩
  · rename_i h1 h2
    split at h
    · rename_i r p hr
      obtain ⟨c, h3, h4⟩ := slK_v h
      rw [cond_if] at h4
      split at h4
      · rename_i hs
        have hsv : ∀ o n es, c.v = .sl o n es → ts.enc.sv x = some (n, es) := by
          intro o n es hc
          cases hx : ts.val x with
          | sl o e l => exact absurd hx (h1 _ _ _)
          | nil o n => exact absurd hx (h2 _ _)
          | _ => simp only [St.sv, enc_val, hx, SV.v, enc_resH, hr, h3, hc]
        cases c with
        | sl o e l => exact ⟨_, _, _, _, rfl, rfl, hsv _ _ _ rfl, h4⟩
        | nil o n => exact ⟨_, _, _, _, rfl, rfl, hsv _ _ _ rfl, h4⟩
        | _ => simp [isSl] at hs
      · cases h4
    · cases h

-- what a callee may read

def TSt.bvLK (ts : TSt) : List SV → (List SV → Option R) → Option R
  | [], k => k []
  | v :: vs, k => match v with
    | .al y => bif ts.good y then
        bif y.ptr then match (ts.get y.root).v with
          | .box cs => bif decide (y.pth = [(0, 0)]) then TSt.bvLK ts vs fun l => k (.rp (SV.frz.go cs) :: l) else none
          | _ => none
        else ts.slK y.root y.path fun c => TSt.bvLK ts vs fun l => k (c.frz :: l)
      else none
    | v => TSt.bvLK ts vs fun l => k (v.frz :: l)
theorem bvLK_v {ts : TSt} : ∀ {cs : List SV} {k : List SV → Option R}, ts.bvLK cs k = some r0 → ∃ l, vl l = (vl cs).map ts.enc.bvL ∧ k l = some r0
  | [], k, h => ⟨[], rfl, h⟩
  | v :: vs, k, h => by
    simp only [TSt.bvLK] at h
    split at h
    · rename_i y
      rw [cond_if] at h
      split at h
      · rename_i hg
        rw [cond_if] at h
        split at h
        · rename_i hp
          split at h <;> try (cases h; done)
          rename_i bs hb
          rw [cond_if] at h
          split at h <;> try (cases h; done)
          rename_i hpth
          obtain ⟨l, h3, h4⟩ := bvLK_v h
          refine ⟨_, ?_, h4⟩
          simp only [SV.v.go, SV.v, List.map_cons, St.bvL, enc_good, hg, if_true, hp, enc_v, hb]
          rw [if_pos (by simpa using hpth), ← frz_vl]
          exact congrArg _ h3
        · rename_i hp
          obtain ⟨c, h1, h2⟩ := slK_v h
          obtain ⟨l, h3, h4⟩ := bvLK_v h2
          refine ⟨_, ?_, h4⟩
          simp only [SV.v.go, SV.v, List.map_cons, St.bvL, enc_good, hg, if_true, h1, SV.frz_v]
          rw [if_neg hp]
          exact congrArg _ h3
      · cases h
    · rename_i hn
      obtain ⟨l, h3, h4⟩ := bvLK_v h
      refine ⟨_, ?_, h4⟩
      simp only [SV.v.go, List.map_cons, SV.frz_v]
      rw [show ts.enc.bvL v.v = v.v.frz from by cases v <;> first | rfl | exact absurd rfl (hn _)]
      exact congrArg _ h3
def TSt.bvK0 (ts : TSt) (n : Nat) (x : XO) (k : SV → Option R) : Option R :=
  match ts.val x with
  | .al y => bif ts.good y then
      bif y.ptr then getK n (ts.get y.root).v y.pth fun cs => k (.rp (SV.frz.go cs))
      else ts.slK y.root y.path fun c => k c.frz
    else none
  | .agg cs => ts.bvLK cs fun l => k (.agg l)
  | .fn g cs => ts.bvLK cs fun l => k (.fn g l)
  | .rp cs => k (.rp (bif Nat.beq n 0 then cs else cs.take n))
  | v => k v.frz
theorem bvK0_v {ts : TSt} {n : Nat} {x : XO} {k : SV → Option R} (h : ts.bvK0 n x k = some r0) : ∃ v, ts.enc.bv0 n x = v.v ∧ k v = some r0 := by
  unfold TSt.bvK0 at h
  split at h
  · rename_i y hy
    rw [cond_if] at h
    split at h
    · rename_i hg
      rw [cond_if] at h
      split at h
      · rename_i hp
        obtain ⟨cs, h1, h2⟩ := getK_v h
        exact ⟨_, by simp only [St.bv0, enc_val, hy, SV.v, enc_good, hg, if_true, hp, enc_v, h1]; rw [← frz_vl], h2⟩
      · rename_i hp
        obtain ⟨c, h1, h2⟩ := slK_v h
        exact ⟨_, by simp only [St.bv0, enc_val, hy, SV.v, enc_good, hg, if_true, hp, h1, SV.frz_v]; rfl, h2⟩
    · cases h
  · rename_i cs hc
    obtain ⟨l, h1, h2⟩ := bvLK_v h
    exact ⟨_, by simp only [St.bv0, enc_val, hc, SV.v]; rw [← h1], h2⟩
  · rename_i g cs hc
    obtain ⟨l, h1, h2⟩ := bvLK_v h
    exact ⟨_, by simp only [St.bv0, enc_val, hc, SV.v]; rw [← h1], h2⟩
  · rename_i cs hc
    refine ⟨_, ?_, h⟩
    simp only [St.bv0, enc_val, hc, SV.v]
    by_cases h0 : n = 0
    · subst h0; rfl
    · have hb : Nat.beq n 0 = false := by cases n with | zero => exact absurd rfl h0 | succ n => rfl
      rw [if_neg h0, hb]
      show V.rp ((vl cs).take n) = V.rp (vl (cs.take n))
      rw [vl_take]
  · rename_i h1 h2 h4 h3
    refine ⟨_, ?_, h⟩
    simp only [St.bv0, enc_val]
    cases hx : ts.val x with
    | al y => exact absurd hx (h1 _)
    | agg cs => exact absurd hx (h2 _)
    | fn g cs => exact absurd hx (h4 _ _)
    | rp cs => exact absurd hx (h3 _)
    | _ => rw [SV.frz_v]; rfl
def TSt.bvK (ts : TSt) (n : Nat) (x : XO) (k : SV → Option R) : Option R :=
  match nil1 x n with
  | some m => k (.nil true m)
  | none => ts.bvK0 n x k
theorem bvK_v {ts : TSt} {n : Nat} {x : XO} {k : SV → Option R} (h : ts.bvK n x k = some r0) : ∃ v, ts.enc.bv n x = v.v ∧ k v = some r0 := by
  unfold TSt.bvK at h
  split at h
  · rename_i m hm
    exact ⟨_, by unfold St.bv; rw [hm]; rfl, h⟩
  · rename_i hm
    obtain ⟨v, h1, h2⟩ := bvK0_v h
    exact ⟨v, by unfold St.bv; rw [hm]; exact h1, h2⟩
def TSt.bvsK (ts : TSt) : List (XO × Nat) → (List SV → Option R) → Option R
  | [], k => k []
  | (x, n) :: l, k => ts.bvK n x fun v => TSt.bvsK ts l fun vs => k (v :: vs)
theorem bvsK_v {ts : TSt} : ∀ {l : List (XO × Nat)} {k : List SV → Option R}, ts.bvsK l k = some r0 → ∃ vs, l.map (fun y => ts.enc.bv y.2 y.1) = vl vs ∧ k vs = some r0
  | [], k, h => ⟨[], rfl, h⟩
  | (x, n) :: l, k, h => by
    simp only [TSt.bvsK] at h
    obtain ⟨v, h1, h2⟩ := bvK_v h
    obtain ⟨vs, h3, h4⟩ := bvsK_v h2
    exact ⟨_, by simp only [List.map_cons, h1, h3]; rfl, h4⟩
end
end Go.Proofs.YtainknkfjekngaaDoor.Vm
