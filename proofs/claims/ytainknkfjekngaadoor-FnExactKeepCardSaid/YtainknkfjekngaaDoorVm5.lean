/- Addresses, loads, stores. -/
import Derived.Test.YtainknkfjekngaaDoorVm4
namespace Go.Proofs.YtainknkfjekngaaDoor.Vm
open Go
set_option linter.unusedVariables false
set_option linter.unusedSimpArgs false

def padd : List (Nat × Nat) → Nat → List (Nat × Nat)
  | [], _ => []
  | [(i, k)], j => [(i, k + j)]
  | x :: y :: p, j => x :: padd (y :: p) j

theorem padd_zero : ∀ p, padd p 0 = p
  | [] => rfl
  | [(i, k)] => rfl
  | x :: y :: p => by simp [padd, padd_zero (y :: p)]
theorem padd_len : ∀ p j, (padd p j).length = p.length
  | [], _ => rfl
  | [(i, k)], _ => rfl
  | x :: y :: p, j => by simp [padd, padd_len (y :: p) j]
theorem padd_ne : ∀ {p} (j), p ≠ [] → padd p j ≠ []
  | [], _, h => absurd rfl h
  | [(i, k)], _, _ => by simp [padd]
  | x :: y :: p, j, _ => by simp [padd]

theorem padd_cons {x : Nat × Nat} {p : List (Nat × Nat)} (j : Nat) (h : p ≠ []) : padd (x :: p) j = x :: padd p j := by
  cases p with
  | nil => exact absurd rfl h
  | cons y p => rfl
theorem addr_cons {w : World} {v : V} {u : Value} {i k : Nat} {p : List (Nat × Nat)} (h : p ≠ []) :
    addr w v u ((i, k) :: p) = (v.elem i).bind fun cs => (cs[k]?).bind fun c => (v.place u i).bind fun (b, o) => (w.cell? ⟨b, o + k, none⟩).bind fun u' => addr w c u' p := by
  cases p with
  | nil => exact absurd rfl h
  | cons y p => rfl
theorem getR_cons {n : Nat} {v : V} {i k : Nat} {p : List (Nat × Nat)} (h : p ≠ []) :
    v.getR n ((i, k) :: p) = (v.elem i).bind fun cs => (cs[k]?).bind fun c => c.getR n p := by
  cases p with
  | nil => exact absurd rfl h
  | cons y p => rfl
theorem setR_cons {v : V} {i k : Nat} {p : List (Nat × Nat)} {xs : List V} (h : p ≠ []) :
    v.setR ((i, k) :: p) xs = match v.elem i with
    | some cs => match cs[k]? with
      | some c => v.setElem i (cs.set k (c.setR p xs))
      | none => v
    | none => v := by
  cases p with
  | nil => exact absurd rfl h
  | cons y p => rfl

theorem addr_padd (w : World) : ∀ (p : List (Nat × Nat)) (v : V) (u : Value) (j b x : Nat), addr w v u p = some (b, x) → addr w v u (padd p j) = some (b, x + j)
  | [], _, _, _, _, _, h => by simp [addr] at h
  | [(i, k)], v, u, j, b, x, h => by
    simp only [addr, padd] at *
    cases hp : v.place u i with
    | none => simp [hp] at h
    | some q =>
      obtain ⟨b', o⟩ := q
      simp only [hp, Option.map_some, Option.some.injEq, Prod.mk.injEq] at h ⊢
      exact ⟨h.1, by omega⟩
  | (i, k) :: y :: p, v, u, j, b, x, h => by
    rw [addr_cons (by simp)] at h
    rw [padd_cons _ (by simp), addr_cons (padd_ne j (by simp))]
    cases he : v.elem i with
    | none => simp [he] at h
    | some es =>
      simp only [he, Option.bind_some] at h ⊢
      cases hc : es[k]? with
      | none => simp [hc] at h
      | some c =>
        simp only [hc, Option.bind_some] at h ⊢
        cases hp : v.place u i with
        | none => simp [hp] at h
        | some q =>
          obtain ⟨b', o⟩ := q
          simp only [hp, Option.bind_some] at h ⊢
          cases hw : w.cell? ⟨b', o + k, none⟩ with
          | none => simp [hw] at h
          | some u' =>
            simp only [hw, Option.bind_some] at h ⊢
            exact addr_padd w (y :: p) c u' j b x h

theorem getR_padd (n : Nat) : ∀ (p : List (Nat × Nat)) (v : V) (cs : List V) (j m : Nat), v.getR n p = some cs → j + m ≤ n → v.getR m (padd p j) = some ((cs.drop j).take m)
  | [], _, _, _, _, h, _ => by simp [V.getR] at h
  | [(i, k)], v, cs, j, m, h, hj => by
    simp only [V.getR, padd] at *
    cases he : v.elem i with
    | none => simp [he] at h
    | some es =>
      simp only [he, Option.bind_some] at h ⊢
      split at h
      · rename_i hk
        obtain rfl := Option.some.inj h
        rw [if_pos (by omega)]
        congr 1
        rw [List.drop_take, List.drop_drop, List.take_take]
        congr 1; omega
      · cases h
  | (i, k) :: y :: p, v, cs, j, m, h, hj => by
    rw [getR_cons (by simp)] at h
    rw [padd_cons _ (by simp), getR_cons (padd_ne j (by simp))]
    cases he : v.elem i with
    | none => simp [he] at h
    | some es =>
      simp only [he, Option.bind_some] at h ⊢
      cases hc : es[k]? with
      | none => simp [hc] at h
      | some c =>
        simp only [hc, Option.bind_some] at h ⊢
        exact getR_padd n (y :: p) c cs j m h hj

theorem setElem_place (v : V) (j : Nat) (xs : List V) (u : Value) (i : Nat) : (v.setElem j xs).place u i = v.place u i := by
  cases v <;> rfl
theorem setR_place (v : V) (p : List (Nat × Nat)) (xs : List V) (u : Value) (i : Nat) : (v.setR p xs).place u i = v.place u i := by
  match p with
  | [] => rfl
  | [(j, k)] =>
    simp only [V.setR]
    split
    · exact setElem_place _ _ _ _ _
    · rfl
  | (j, k) :: y :: p =>
    simp only [V.setR]
    split
    · split
      · exact setElem_place _ _ _ _ _
      · rfl
    · rfl

/-- Is a name still good? -/
def St.good (st : St) (x : Al) : Bool := decide (x.ver = (st x.root).ver) && ((x.short || decide (x.hv = (st x.root).hv)) && ((!x.bx || (st x.root).v.isBx) && (st x.root).v.pok x.pth))

theorem good_bx {x : Al} {v : V} (h : (x.bx = false ∨ v.isBx = true) ∧ v.pok x.pth = true) : x.fit v := by
  refine ⟨?_, h.2⟩
  rcases h.1 with h | h
  · intro e; rw [h] at e; cases e
  · exact fun _ => h

/-- The place whose address a temporary holds. -/
def St.res (st : St) : XO → Option (Nat × List (Nat × Nat))
  | .t r => match (st r).v with
    | .box _ => some (r, [(0, 0)])
    | .al x => if x.ptr && st.good x then some (x.root, x.pth) else none
    | _ => none
  | _ => none
/-- The slice of its own that a temporary holds, or names. -/
def St.resH (st : St) : XO → Option (Nat × List (Nat × Nat))
  | .t r => match (st r).v with
    | .sl true _ _ => some (r, [])
    | .al x => if !x.ptr && st.good x then some (x.root, x.path) else none
    | _ => none
  | _ => none
def St.ptrAt (st : St) (r : Nat) (p : List (Nat × Nat)) : V := .al ⟨true, r, p, (st r).ver, (st r).hv⟩
def St.hdrAt (st : St) (r : Nat) (p : List (Nat × Nat)) : V := .al ⟨false, r, p, (st r).ver, (st r).hv⟩
def St.slAt (st : St) (r : Nat) : List (Nat × Nat) → Option V
  | [] => some (st r).v
  | q :: p => match (st r).v.getR 1 (q :: p) with
    | some [v] => some v
    | _ => none

section
variable {P : Program} {B : Base P} {N : Nat} {st : St} {a : Act} {w : World} {S : CS} {fp : Nat → CS}

theorem Rl.res (h : Rl B N st a w S fp) {n r : Nat} {x : Operand} {y : XO} {p : List (Nat × Nat)} (hx : cO n x = some y) (hr : st.res y = some (r, p)) :
    ∃ b o, addr w (st r).v (tm a r) p = some (b, o) ∧ a.eval x = .pointer (some ⟨b, o, none⟩) := by
  have hv := h.val hx
  cases y with
  | t t =>
    simp only [St.res] at hr
    simp only [St.val] at hv
    split at hr
    · rename_i cs hb
      simp only [Option.some.injEq, Prod.mk.injEq] at hr
      obtain ⟨rfl, rfl⟩ := hr
      have he : a.eval x = tm a t := by
        unfold cO at hx; split at hx <;> simp_all [Act.eval, tm]
      rw [hb] at hv
      obtain ⟨b, o, us, hu, hc, hr⟩ := hv
      rw [he] at hu ⊢
      exact ⟨b, o, by simp [addr, hb, V.place, hu, ptrOf], hu⟩
    · rename_i al hb
      split at hr
      · rename_i hg
        simp only [Option.some.injEq, Prod.mk.injEq] at hr
        obtain ⟨rfl, rfl⟩ := hr
        rw [hb] at hv
        obtain ⟨h1, h2, h3⟩ := hv
        simp only [St.good, Bool.and_eq_true, decide_eq_true_eq, Bool.or_eq_true, Bool.not_eq_true'] at hg
        have h4 := h3 hg.2.1 hg.2.2.1 (good_bx hg.2.2.2)
        rw [hg.1] at h4
        exact h4
      · cases hr
    · cases hr
  | c v => simp [St.res] at hr
  | nil m => simp [St.res] at hr

theorem Rl.ptrAt (h : Rl B N st a w S fp) {r : Nat} {p : List (Nat × Nat)} {b o : Nat} (ha : addr w (st r).v (tm a r) p = some (b, o)) (F : CS) :
    RV w S (AlOk w a st) (st.ptrAt r p) (.pointer (some ⟨b, o, none⟩)) F :=
  ⟨Nat.le_refl _, Nat.le_refl _, fun _ _ _ => ⟨b, o, by rw [Al.pth_n (by intro e; simp only at e; rw [e] at ha; simp [addr] at ha)]; exact ha, rfl⟩⟩

theorem Rl.getR (h : Rl B N st a w S fp) {r n : Nat} {p : List (Nat × Nat)} {cs : List V} (hg : (st r).v.getR n p = some cs) :
    ∃ b x us F1 put, addr w (st r).v (tm a r) p = some (b, x) ∧ Focus w S (AlOk w a st) (st r).v (tm a r) (fp r) cs b x us F1 put ∧ (∀ ys, ys.length = n → put ys = (st r).v.setR p ys) ∧ cs.length = n :=
  focus_path n p w S (AlOk w a st) (st r).v (tm a r) (fp r) cs (h.rv r) hg

/-- The address of a field. -/
def fOff (P : Program) (T f : Nat) : Option Nat :=
  match P.underlying T with
  | some (.struct fs) => match fs[f]? with
    | some x => if P.cellsOf x.type = 0 then none else some x.offset
    | none => none
  | _ => none

theorem run_fieldAt {T f off : Nat} (h : fOff P T f = some off) (b o : Nat) (w : World) :
    (Instr.fieldAt T (.pointer (some ⟨b, o, none⟩)) f).run P w = .ok (.pointer (some ⟨b, o + off, none⟩)) w := by
  unfold fOff at h
  split at h
  · rename_i fs hu
    split at h
    · rename_i x hx
      split at h
      · cases h
      · rename_i hz
        obtain rfl := Option.some.inj h
        have hi : ∃ i, P.info? x.type = some i := by
          cases hi : P.info? x.type with
          | none => simp [Program.cellsOf, hi] at hz
          | some i => exact ⟨i, rfl⟩
        obtain ⟨i, hi⟩ := hi
        have hs : i.size ≠ 0 := by simpa [Program.cellsOf, hi] using hz
        simp [Instr.fieldAt, run_underlying hu, hx, Instr.sureAddr, fieldPlace, run_sizeOf' hi, hs, addr_add]
    · cases h
  · cases h

theorem ot_fadr_own {o : Oper} {d n T f off r : Nat} {x : Operand} {y : XO} {p : List (Nat × Nat)} {K : St → Prop} (ho : o.op = .fieldAddr T x f) (hd : o.dst = some d) (hdN : d < N) (hx : cO n x = some y)
    (hf : fOff P T f = some off) (hr : st.res y = some (r, p)) (hk : K (st.put d (st.ptrAt r (padd p off)))) : OT P N o st K :=
  OT.value _ hd hdN (by simp [St.ptrAt, V.cp]) (fun B a w S fp h => by
    obtain ⟨b, x, ha, he⟩ := h.res hx hr
    exact ⟨_, CS.none, by simp [execOp, ho, he, run_fieldAt hf], h.ptrAt (addr_padd w p _ _ off b x ha) _⟩) hk

theorem ot_fadr_rp {o : Oper} {d n T f off : Nat} {x : Operand} {y : XO} {cs : List V} {K : St → Prop} (ho : o.op = .fieldAddr T x f) (hd : o.dst = some d) (hdN : d < N) (hx : cO n x = some y)
    (hf : fOff P T f = some off) (hr : st.val y = .rp cs) (hk : K (st.put d (.rp (cs.drop off)))) : OT P N o st K :=
  OT.value _ hd hdN (by simp [V.cp]) (fun B a w S fp h => by
    have hv := h.val hx
    rw [hr] at hv
    obtain ⟨b, x, us, he, hc, hl⟩ := hv
    refine ⟨_, CS.none, by simp [execOp, ho, he, run_fieldAt hf], b, x + off, us.drop off, rfl, fun k hk => ?_, ?_⟩
    · simp only [List.length_drop] at hk
      obtain ⟨h1, h2⟩ := hc (off + k) (by omega)
      rw [Nat.add_assoc]
      exact ⟨h1, by rw [h2]; simp⟩
    · by_cases hlen : off ≤ cs.length
      · have h0 : cs = cs.take off ++ cs.drop off := (List.take_append_drop off cs).symm
        rw [h0] at hl
        obtain ⟨ua, ub, Fa, Fb, rfl, la, lb, dab, hla, hlb⟩ := RL.split hl
        have : ua.length = off := by rw [RL.length hla, List.length_take]; omega
        have hdr : (ua ++ ub).drop off = ub := by
          rw [List.drop_append_of_le_length (by omega), List.drop_eq_nil_of_le (show ua.length ≤ off by omega)]; rfl
        rw [hdr]
        exact hlb.mono lb
      · have h1 := RL.length hl
        rw [List.drop_eq_nil_of_le (by omega), List.drop_eq_nil_of_le (by omega)]
        rfl) hk

/-- Loading a variable: its cells, one by one. -/
def isAggB (P : Program) (T : Nat) : Option Bool :=
  match P.underlying T with
  | some (.struct _) | some (.array _ _) => some true
  | some _ => some false
  | none => none

theorem run_isAgg' {T : Nat} {b : Bool} (h : isAggB P T = some b) (w : World) : (isAgg T).run P w = .ok b w := by
  unfold isAggB at h
  split at h <;> first
    | (rename_i hu; cases h; simp [isAgg, run_underlying hu]; done)
    | (rename_i d h1 h2 hu; cases h; simp only [isAgg, Sem.run_bind, run_underlying h2, Result.andThen]; cases d <;> simp_all; done)
    | cases h

theorem run_loadVar {T n b o : Nat} {g : Bool} (hg : isAggB P T = some g) (hn : P.cellsOf T = n) (h1 : g = false → n = 1) (us : List Value) (hl : us.length = n) (w : World) (hi : (P.info? T).isSome = true)
    (hc : ∀ j, j < n → w.cell? ⟨b, o + j, none⟩ = us[j]?) : (Instr.loadAt T (.pointer (some ⟨b, o, none⟩))).run P w = .ok (if g then .agg us.toArray else us.getD 0 undef) w := by
  obtain ⟨i, hi⟩ := Option.isSome_iff_exists.1 hi
  have hs : i.size = n := by simpa [Program.cellsOf, hi] using hn
  cases g with
  | true =>
    have := run_loadCells_list (P := P) w ⟨b, o, none⟩ us (fun j v hj => by
      have hlt := (List.getElem?_eq_some_iff.1 hj).1
      rw [addr_add, hc j (by omega)]; exact hj)
    simp [Instr.loadAt, Instr.sureAddr, loadVar, run_isAgg' hg, run_sizeOf' hi, hs, ← hl, this]
  | false =>
    obtain rfl := h1 rfl
    have h0 := hc 0 (by omega)
    obtain ⟨u, rfl⟩ : ∃ u, us = [u] := by
      match us, hl with
      | [u], _ => exact ⟨u, rfl⟩
    simp at h0
    simp [Instr.loadAt, Instr.sureAddr, loadVar, run_isAgg' hg, h0]

/-- What a load yields, out of the leaves. -/
def mkV (g : Bool) (cs : List V) : V := if g then .agg cs else cs.getD 0 .hole

theorem rv_mkV {w : World} {S : CS} {A : AlSem} {g : Bool} {cs : List V} {us : List Value} {F : CS} {n : Nat} (h : RL w S A cs us F) (hn : cs.length = n) (h1 : g = false → n = 1) :
    RV w S A (mkV g cs) (if g then .agg us.toArray else us.getD 0 undef) F := by
  cases g with
  | true => exact ⟨us, rfl, h⟩
  | false =>
    obtain rfl := h1 rfl
    match cs, hn with
    | [v], _ =>
      obtain ⟨u, ur, F1, F2, rfl, l1, l2, d, hv, hr⟩ := h
      exact hv.mono l1

theorem cp_mkV {g : Bool} {cs : List V} (h : V.cp.go cs = true) : (mkV g cs).cp = true := by
  cases g with
  | true => simpa [mkV, V.cp] using h
  | false =>
    cases cs with
    | nil => simp [mkV, V.cp]
    | cons v vs =>
      simp only [V.cp.go, Bool.and_eq_true] at h
      simpa [mkV] using h.1

theorem ot_load_own {o : Oper} {d m T n r : Nat} {g : Bool} {x : Operand} {y : XO} {p : List (Nat × Nat)} {cs : List V} {K : St → Prop} (ho : o.op = .load T x) (hd : o.dst = some d) (hdN : d < N) (hx : cO m x = some y)
    (hg : isAggB P T = some g) (hi : (P.info? T).isSome = true) (hn : P.cellsOf T = n) (h1 : g = false → n = 1) (hr : st.res y = some (r, p)) (hget : (st r).v.getR n p = some cs) (hcp : V.cp.go cs = true)
    (hk : K (st.put d (mkV g cs))) : OT P N o st K :=
  OT.value _ hd hdN (cp_mkV hcp) (fun B a w S fp h => by
    obtain ⟨b, x, ha, he⟩ := h.res hx hr
    obtain ⟨b', x', us, F1, put, ha', hf, _, hlen⟩ := h.getR hget
    rw [ha] at ha'
    obtain ⟨rfl, rfl⟩ : b = b' ∧ x = x' := by simpa using ha'
    have hus := RL.length hf.rl
    refine ⟨_, F1, ?_, rv_mkV hf.rl hlen h1⟩
    have := run_loadVar hg hn h1 us (by omega) w hi (fun j hj => (hf.cells j (by omega)).2.1)
    simp only [execOp, ho, he, Sem.run_bind, this]; rfl) hk

theorem ot_load_rp {o : Oper} {d m T n : Nat} {g : Bool} {x : Operand} {y : XO} {cs : List V} {K : St → Prop} (ho : o.op = .load T x) (hd : o.dst = some d) (hdN : d < N) (hx : cO m x = some y)
    (hg : isAggB P T = some g) (hi : (P.info? T).isSome = true) (hn : P.cellsOf T = n) (h1 : g = false → n = 1) (hr : st.val y = .rp cs) (hlen : n ≤ cs.length) (hcp : V.cp.go (cs.take n) = true)
    (hk : K (st.put d (mkV g (cs.take n)))) : OT P N o st K :=
  OT.value _ hd hdN (cp_mkV hcp) (fun B a w S fp h => by
    have hv := h.val hx
    rw [hr] at hv
    obtain ⟨b, x, us, he, hc, hl⟩ := hv
    have hul := RL.length hl
    have h0 : cs = cs.take n ++ cs.drop n := (List.take_append_drop n cs).symm
    rw [h0] at hl
    obtain ⟨ua, ub, Fa, Fb, rfl, la, lb, dab, hla, hlb⟩ := RL.split hl
    have hua : ua.length = n := by rw [RL.length hla, List.length_take]; omega
    refine ⟨_, Fa, ?_, rv_mkV hla (by simp; omega) h1⟩
    have := run_loadVar hg hn h1 ua hua w hi (fun j hj => by rw [(hc j (by omega)).2, List.getElem?_append_left (by omega)])
    simp only [execOp, ho, he, Sem.run_bind, this]; rfl) hk

/-- The leaves of a place, those of its own by their names. -/
def St.view (st : St) (r : Nat) (p : List (Nat × Nat)) : Nat → List V → List V
  | _, [] => []
  | j, v :: vs => (if v.cp then v else match v with | .sl true _ _ => st.hdrAt r (padd p j) | _ => .hole) :: st.view r p (j + 1) vs

theorem view_cp (st : St) (r : Nat) (p : List (Nat × Nat)) : ∀ (cs : List V) (j : Nat), V.cp.go (st.view r p j cs) = true
  | [], _ => rfl
  | v :: vs, j => by
    simp only [St.view, V.cp.go, Bool.and_eq_true, view_cp st r p vs (j + 1), and_true]
    split
    · assumption
    · split
      · simp [St.hdrAt, V.cp]
      · simp [V.cp]

theorem view_len (st : St) (r : Nat) (p : List (Nat × Nat)) : ∀ (cs : List V) (j : Nat), (st.view r p j cs).length = cs.length
  | [], _ => rfl
  | v :: vs, j => by simp [St.view, view_len st r p vs]

theorem Rl.view (h : Rl B N st a w S fp) {r n : Nat} {p : List (Nat × Nat)} {cs0 : List V} {b x : Nat} (hp : p ≠ []) (ha : addr w (st r).v (tm a r) p = some (b, x)) (hg : (st r).v.getR n p = some cs0) (hn : cs0.length = n) :
    ∀ (cs : List V) (us : List Value) (j : Nat) (F : CS), cs0.drop j = cs → j + cs.length = n → (∀ k, k < cs.length → w.cell? ⟨b, x + (j + k), none⟩ = us[k]?) → RL w S (AlOk w a st) cs us F → RL w S (AlOk w a st) (st.view r p j cs) us F
  | [], us, j, F, _, _, _, hr => hr
  | v :: vs, us, j, F, hd, hj, hc, hr => by
    obtain ⟨u, ur, F1, F2, rfl, l1, l2, dd, hv, hr⟩ := hr
    refine ⟨u, ur, F1, F2, rfl, l1, l2, dd, ?_, h.view hp ha hg hn vs ur (j + 1) F2 ?_ (by simp at hj ⊢; omega) (fun k hk => ?_) hr⟩
    · split
      · exact hv
      · split
        · refine ⟨Nat.le_refl _, Nat.le_refl _, fun _ _ _ => ?_⟩
          simp only [St.hdrAt]
          have hpa := addr_padd w p _ _ j b x ha
          have hga := getR_padd n p (st r).v cs0 j 1 hg (by simp at hj; omega)
          have hc0 := hc 0 (by simp)
          simp at hc0
          cases hpp : padd p j with
          | nil => exact absurd hpp (padd_ne j hp)
          | cons q p' =>
            rw [hpp] at hpa hga
            exact ⟨b, x + j, hpa, hc0, _, hga⟩
        · trivial
    · have : cs0.drop (j + 1) = (cs0.drop j).drop 1 := by rw [List.drop_drop]
      rw [this, hd]; rfl
    · have := hc (k + 1) (by simp; omega)
      rw [show j + (k + 1) = j + 1 + k by omega] at this
      simpa using this

theorem res_ne (st : St) {y : XO} {r : Nat} {p : List (Nat × Nat)} {n : Nat} {cs : List V} (hg : (st r).v.getR n p = some cs) : p ≠ [] := by
  rintro rfl; simp [V.getR] at hg

theorem ot_load_view {o : Oper} {d m T n r : Nat} {g : Bool} {x : Operand} {y : XO} {p : List (Nat × Nat)} {cs : List V} {K : St → Prop} (ho : o.op = .load T x) (hd : o.dst = some d) (hdN : d < N) (hx : cO m x = some y)
    (hg : isAggB P T = some g) (hi : (P.info? T).isSome = true) (hn : P.cellsOf T = n) (h1 : g = false → n = 1) (hr : st.res y = some (r, p)) (hget : (st r).v.getR n p = some cs)
    (hk : K (st.put d (mkV g (st.view r p 0 cs)))) : OT P N o st K :=
  OT.value _ hd hdN (cp_mkV (view_cp st r p cs 0)) (fun B a w S fp h => by
    obtain ⟨b, x, ha, he⟩ := h.res hx hr
    obtain ⟨b', x', us, F1, put, ha', hf, _, hlen⟩ := h.getR hget
    rw [ha] at ha'
    obtain ⟨rfl, rfl⟩ : b = b' ∧ x = x' := by simpa using ha'
    have hus := RL.length hf.rl
    have hv := h.view (res_ne st (y := y) hget) ha hget hlen cs us 0 F1 rfl (by omega) (fun k hk => by simpa using (hf.cells k (by omega)).2.1) hf.rl
    refine ⟨_, F1, ?_, rv_mkV hv (by rw [view_len]; exact hlen) h1⟩
    have := run_loadVar hg hn h1 us (by omega) w hi (fun j hj => (hf.cells j (by omega)).2.1)
    simp only [execOp, ho, he, Sem.run_bind, this]; rfl) hk
end
end Go.Proofs.YtainknkfjekngaaDoor.Vm
