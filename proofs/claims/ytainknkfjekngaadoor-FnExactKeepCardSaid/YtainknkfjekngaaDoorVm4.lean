/- The operations on memory: new variables, loads, stores, addresses. -/
import Derived.Test.YtainknkfjekngaaDoorVm3
namespace Go.Proofs.YtainknkfjekngaaDoor.Vm
open Go
set_option linter.unusedVariables false
set_option linter.unusedSimpArgs false

theorem addr_add (b o k : Nat) : (⟨b, o, none⟩ : Addr).add k = ⟨b, o + k, none⟩ := by unfold Addr.add; split <;> simp_all

section
variable {P : Program} {B : Base P} {N : Nat} {st : St} {a : Act} {w : World} {S : CS} {fp : Nat → CS}

theorem pres_alloc (w : World) (o : Obj) : Pres CS.none w (w.alloc o) :=
  ⟨rfl, rfl, by show w.heap.size ≤ (w.heap.push o).size; simp, fun b o' h => ⟨o', by
    rw [← h]; show (w.heap.push o)[b]? = _; rw [Array.getElem?_push_lt (heap_lt h), Array.getElem?_eq_getElem (heap_lt h)], .refl _ _⟩⟩
theorem heap_new (w : World) (o : Obj) : (w.alloc o).heap[w.heap.size]? = some o := by show (w.heap.push o)[w.heap.size]? = _; simp
theorem size_alloc' (w : World) (o : Obj) : (w.alloc o).heap.size = w.heap.size + 1 := by show (w.heap.push o).size = _; simp
theorem cell_new (w : World) (c : Array Value) (t : TypeId) (x : Nat) : (w.alloc (.cells c t)).cell? ⟨w.heap.size, x, none⟩ = c[x]? := by
  simp only [World.cell?, heap_new]; rfl
theorem plb_new (w : World) (c : Array Value) (t : TypeId) : PlB (w.alloc (.cells c t)) w.heap.size := ⟨c, t, by rw [heap_new]⟩
theorem frozen_new (w : World) (c : Array Value) (t : TypeId) (x : Nat) : (w.alloc (.cells c t)).frozen? ⟨w.heap.size, x, none⟩ = false := by
  simp only [World.frozen?, heap_new]; simp

/-- A new row of cells: nothing that is spoken of turns. -/
theorem Rl.alloc (h : Rl B N st a w S fp) (o : Obj) : Rl B N st a (w.alloc o) S fp :=
  h.world (pres_alloc w o) (fun _ _ h => h.elim) (CS.le.refl _) (fun b x hs => ⟨Nat.lt_of_lt_of_le (h.ltS b x hs) (pres_alloc w o).size, h.shr b x hs⟩) h.djS

theorem Rl.fresh_new (h : Rl B N st a w S fp) (n : Nat) (F : CS) (hF : ∀ b x, F b x → B.O0 b x ∨ fresh B.w0 b x) : ∀ b x, (CS.un (CS.row w.heap.size 0 n) F) b x → B.O0 b x ∨ fresh B.w0 b x := by
  intro b x hx
  rcases hx with ⟨rfl, _, _⟩ | hx
  · exact .inr h.pres.size
  · exact hF b x hx

/-- A draw of the tape turns nothing. -/
theorem pres_drawn (w : World) (k : Nat) : Pres CS.none w { w with drawn := k } := ⟨rfl, rfl, Nat.le_refl _, fun b o h => ⟨o, h, .refl _ _⟩⟩
theorem Rl.drawn (h : Rl B N st a w S fp) (k : Nat) : Rl B N st a { w with drawn := k } S fp :=
  h.world (pres_drawn w k) (fun _ _ h => h.elim) (CS.le.refl _) (fun b x hs => ⟨h.ltS b x hs, h.shr b x hs⟩) h.djS

-- zero values

/-- How many cells an element of each leaf takes, where the leaf is a slice; else 0. -/
def leaves (P : Program) : Nat → TypeId → List Nat
  | 0, _ => []
  | f + 1, T => match P.underlying T with
    | some (.struct fs) => fs.toList.flatMap fun x => leaves P f x.type
    | some (.slice e) => [P.cellsOf e]
    | _ => [0]
def zV : Value → Nat → V
  | .slice none 0 0, n => .sl true n []
  | v, _ => .lit v
def zsOf (P : Program) (T : TypeId) : Option (List V) :=
  match (P.info? T).bind (·.zero) with
  | some z =>
    let l := leaves P 8 T
    if l.length = z.cells.size ∧ z.cells.size = P.cellsOf T ∧ (∀ v ∈ z.cells.toList, v.oneCell' = true) then some (List.zipWith zV z.cells.toList l) else none
  | none => none

theorem rv_zV {w : World} {S : CS} {A : AlSem} (v : Value) (n : Nat) : RV w S A (zV v n) v CS.none := by
  unfold zV; split
  · exact ⟨none, 0, rfl, ⟨Nat.le_refl _, by decide⟩, .inr (.inl ⟨rfl, rfl, rfl⟩)⟩
  · exact rfl
theorem rl_zs {w : World} {S : CS} {A : AlSem} : ∀ (vs : List Value) (l : List Nat), l.length = vs.length → RL w S A (List.zipWith zV vs l) vs CS.none
  | [], [], _ => rfl
  | v :: vs, n :: l, h => ⟨v, vs, CS.none, CS.none, rfl, CS.none_le _, CS.none_le _, CS.none_dj _, rv_zV v n, rl_zs vs l (by simpa using h)⟩

theorem zsOf_spec {T : TypeId} {zs : List V} (h : zsOf P T = some zs) : ∃ (i : TypeInfo) (z : Value), P.info? T = some i ∧ i.zero = some z ∧ z.cells.size = zs.length ∧ i.size = zs.length ∧ (∀ v ∈ z.cells.toList, v.oneCell' = true) ∧
    ∀ (w : World) (S : CS) (A : AlSem), RL w S A zs z.cells.toList CS.none := by
  unfold zsOf at h
  split at h
  · rename_i z hz
    simp only at h
    split at h
    · rename_i hl
      obtain rfl := Option.some.inj h
      cases hi : P.info? T with
      | none => simp [hi] at hz
      | some i =>
        rw [hi] at hz
        simp only [Option.bind_some] at hz
        refine ⟨i, z, rfl, hz, by simp [hl.1], ?_, hl.2.2, fun w S A => rl_zs _ _ (by simpa using hl.1)⟩
        have := hl.2.1
        simp [Program.cellsOf, hi] at this
        simp [hl.1, this]
    · cases h
  · cases h

theorem run_zeroValue' {T : TypeId} {i : TypeInfo} {z : Value} (hi : P.info? T = some i) (hz : i.zero = some z) (w : World) : (zeroValue T).run P w = .ok z w := by
  simp [zeroValue, typeInfo, hi, hz]
theorem run_sizeOf' {T : TypeId} {i : TypeInfo} (hi : P.info? T = some i) (w : World) : (sizeOf T).run P w = .ok i.size w := by
  simp [sizeOf, typeInfo, hi]

theorem run_newVar (t : TypeId) (v : Value) (w : World) : (newVar t v).run P w = .ok ⟨w.heap.size, 0, none⟩ (w.alloc (.cells v.cells t)) := by
  simp [newVar, newRow]

theorem ob_box {w : World} {S : CS} {A : AlSem} {cs : List V} {us : List Value} {F : CS} {t : TypeId} (h : RL (w.alloc (.cells us.toArray t)) S A cs us F) (hlt : ∀ b x, F b x → b < w.heap.size) :
    RV (w.alloc (.cells us.toArray t)) S A (.box cs) (.pointer (some ⟨w.heap.size, 0, none⟩)) ((CS.row w.heap.size 0 cs.length).un F) := by
  refine ⟨w.heap.size, 0, us, rfl, fun k hk => ⟨.inl ⟨rfl, by omega, by omega⟩, ?_, ?_⟩, h.mono (fun b x hx => ⟨.inr hx, fun hh => ?_⟩)⟩
  · simp [cell_new]
  · simp [frozen_new]
  · obtain ⟨rfl, _, _⟩ := hh; exact absurd (hlt _ _ hx) (Nat.lt_irrefl _)

/-- A new variable whose cells are given. -/
theorem Rl.new_box (h : Rl B N st a w S fp) (d : Nat) (hd : d < N) (t : TypeId) (cs : List V) (us : List Value) (F : CS) (hr : RL w S (AlOk w a st) cs us F)
    (hF : ∀ i, i ≠ d → F.dj (fp i)) (hFS : F.dj S) (hlt : ∀ b x, F b x → b < w.heap.size) (hO : ∀ b x, F b x → B.O0 b x ∨ fresh B.w0 b x) :
    Rl B N (st.put d (.box cs)) (a.put (some d) (.pointer (some ⟨w.heap.size, 0, none⟩))) (w.alloc (.cells us.toArray t)) S (fun i => if i = d then (CS.row w.heap.size 0 cs.length).un F else fp i) := by
  have h1 := h.alloc (.cells us.toArray t)
  have hp := pres_alloc w (.cells us.toArray t)
  have hag : ∀ G : CS, (∀ b x, G b x → b < w.heap.size) → Agree w (w.alloc (.cells us.toArray t)) G := fun G hG => hp.agree hG (CS.none_dj _).symm
  have hA : ∀ x u, AlOk w a st x u → AlOk (w.alloc (.cells us.toArray t)) a st x u := fun x u ⟨h1, h2, h3⟩ => ⟨h1, h2, fun e1 e2 e3 => (h3 e1 e2 e3).agree (h.rv x.root) (hag _ (h.lt _))⟩
  have hr' := RL.frame (CS.le.refl _) hA (hag S h.ltS) _ _ _ _ (CS.le.refl _) (hag F hlt) hr
  refine h1.put d _ _ _ hd (ob_box hr' hlt) ?_ ?_ ?_ (h.fresh_new _ _ hO)
  · intro i hi
    refine fun b x h2 h3 => ?_
    rcases h2 with ⟨rfl, _, _⟩ | h2
    · exact absurd (h.lt i _ _ h3) (Nat.lt_irrefl _)
    · exact hF i hi b x h2 h3
  · refine fun b x h2 h3 => ?_
    rcases h2 with ⟨rfl, _, _⟩ | h2
    · exact absurd (h.ltS _ _ h3) (Nat.lt_irrefl _)
    · exact hFS b x h2 h3
  · intro b x h2
    rw [size_alloc']
    rcases h2 with ⟨rfl, _, _⟩ | h2
    · exact Nat.lt_succ_self _
    · exact Nat.lt_succ_of_lt (hlt b x h2)

theorem ot_alloc {o : Oper} {d T : Nat} {zs : List V} {K : St → Prop} (ho : o.op = .alloc T) (hd : o.dst = some d) (hdN : d < N) (hz : zsOf P T = some zs) (hk : K (st.put d (.box zs))) : OT P N o st K := by
  intro B a w S fp next Q hr hn
  obtain ⟨i, z, hi, hz0, hzs, hsz, hone, hrl⟩ := zsOf_spec hz
  unfold Oper.wp
  have hrun : (execOp a.eval o).run P w = .ok (.value (.pointer (some ⟨w.heap.size, 0, none⟩))) (w.alloc (.cells z.cells T)) := by
    simp [execOp, ho, Instr.alloc, run_zeroValue' hi hz0, run_newVar]
  rw [hrun]
  show next (a.put o.dst _) _
  rw [hd]
  have := hr.new_box d hdN T zs z.cells.toList CS.none (hrl _ _ _) (fun _ _ => CS.none_dj _) (CS.none_dj _) (fun _ _ h => h.elim) (fun _ _ h => h.elim)
  simp only [Array.toArray_toList] at this
  exact hn _ _ _ _ _ hk this

/-- Is it strings.Builder's make: two fields, a pointer to itself and bytes? Then the bytes' type. -/
def bldE (P : Program) (T : TypeId) : Option TypeId :=
  match P.info? T with
  | some i => match i.zero with
    | some (.agg cs) => match cs.toList with
      | [.pointer none, .slice none 0 0] => match P.underlying T with
        | some (.struct fs) => match fs.toList with
          | [f0, f1] => match P.underlying f0.type, P.underlying f1.type with
            | some (.pointer T'), some (.slice E) => if T' = T then some E else none
            | _, _ => none
          | _ => none
        | _ => none
      | _ => none
    | _ => none
  | none => none
theorem bldE_spec {T E : TypeId} (h : bldE P T = some E) : ∃ (i : TypeInfo) (cs : Array Value), P.info? T = some i ∧ i.zero = some (.agg cs) ∧ cs = #[.pointer none, .slice none 0 0] := by
  unfold bldE at h
  split at h <;> try (cases h; done)
  rename_i i hi
  split at h <;> try (cases h; done)
  rename_i cs hz
  split at h <;> try (cases h; done)
  rename_i hcs
  exact ⟨i, cs, hi, hz, Array.toList_inj.1 hcs⟩
theorem ot_allocB {o : Oper} {d T E : Nat} {K : St → Prop} (ho : o.op = .alloc T) (hd : o.dst = some d) (hdN : d < N) (hz : bldE P T = some E) (hk : K (st.put d (.bld T E []))) : OT P N o st K := by
  intro B a w S fp next Q hr hn
  obtain ⟨i, cs, hi, hz0, rfl⟩ := bldE_spec hz
  unfold Oper.wp
  have hrun : (execOp a.eval o).run P w = .ok (.value (.pointer (some ⟨w.heap.size, 0, none⟩))) (w.alloc (.cells #[.pointer none, .slice none 0 0] T)) := by
    simp [execOp, ho, Instr.alloc, run_zeroValue' hi hz0, run_newVar, Value.cells]
  rw [hrun]
  show next (a.put o.dst _) _
  rw [hd]
  have h1 := hr.alloc (.cells #[.pointer none, .slice none 0 0] T)
  refine hn _ _ _ _ _ hk (h1.put d (.bld T E []) _ (fun b _ => b = w.heap.size) hdN ?_ ?_ ?_ ?_ ?_)
  · refine ⟨w.heap.size, .pointer none, .slice none 0 0, rfl, fun _ => rfl, .inl rfl, ?_, ⟨rfl, .inl ⟨rfl, rfl⟩⟩, (by simp [Value.ownBlock]), fun g e => by simp [Value.ownBlock] at e⟩
    show (w.heap.push _)[w.heap.size]? = _
    rw [Array.getElem?_push_size]
  · rintro i hi b x rfl h3
    exact absurd (hr.lt i _ _ h3) (Nat.lt_irrefl _)
  · rintro b x rfl h3
    exact absurd (hr.ltS _ _ h3) (Nat.lt_irrefl _)
  · rintro b x rfl
    rw [size_alloc']; exact Nat.lt_succ_self _
  · rintro b x rfl
    exact .inr hr.pres.size

/-- The cells of a value, as they are stored one by one. -/
def V.leafOk : V → Bool
  | .lit v => v.oneCell'
  | .box _ | .sl _ _ _ | .rp _ | .fn _ _ => true
  | _ => false
def V.cells : V → Option (List V)
  | .agg cs => if cs.all (·.leafOk) then some cs else none
  | v => if v.leafOk then some [v] else none

theorem leaf_one {w : World} {S : CS} {A : AlSem} {v : V} {u : Value} {F : CS} (h : RV w S A v u F) (hl : v.leafOk = true) : u.oneCell' = true := by
  cases v with
  | lit v => simp only [RV] at h; subst h; exact hl
  | box cs => obtain ⟨b, o, us, rfl, _⟩ := h; rfl
  | sl own n es => obtain ⟨a, cap, rfl, _⟩ := h; rfl
  | rp cs => obtain ⟨b, o, us, rfl, _⟩ := h; rfl
  | fn g cs => obtain ⟨us, rfl, _⟩ := h; rfl
  | _ => simp [V.leafOk] at hl
theorem leaves_one {w : World} {S : CS} {A : AlSem} : ∀ {vs : List V} {us : List Value} {F : CS}, RL w S A vs us F → vs.all (·.leafOk) = true → ∀ u ∈ us, u.oneCell' = true
  | [], us, _, h, _, u, hu => by simp [RL] at h; subst h; simp at hu
  | v :: vs, us, F, h, hl, u, hu => by
    obtain ⟨u0, ur, F1, F2, rfl, l1, l2, d, hv, hr⟩ := h
    simp only [List.all_cons, Bool.and_eq_true] at hl
    rcases List.mem_cons.1 hu with rfl | hu
    · exact leaf_one hv hl.1
    · exact leaves_one hr hl.2 u hu

theorem oneCell_cells {u : Value} (h : u.oneCell' = true) : u.cells = #[u] := by
  cases u <;> first | rfl | simp [Value.oneCell'] at h

theorem V.cells_spec {w : World} {S : CS} {A : AlSem} {v : V} {u : Value} {F : CS} {cs : List V} (h : RV w S A v u F) (hc : v.cells = some cs) :
    RL w S A cs u.cells.toList F ∧ ∀ x ∈ u.cells.toList, x.oneCell' = true := by
  have one : v.leafOk = true → cs = [v] → RL w S A cs u.cells.toList F ∧ ∀ x ∈ u.cells.toList, x.oneCell' = true := by
    rintro hl rfl
    have h1 := leaf_one h hl
    rw [oneCell_cells h1]
    exact ⟨⟨u, [], F, CS.none, rfl, CS.le.refl _, CS.none_le _, (CS.none_dj _).symm, h, rfl⟩, by simpa using h1⟩
  cases v with
  | agg cs0 =>
    simp only [V.cells] at hc
    split at hc
    · rename_i hl
      obtain rfl := Option.some.inj hc
      obtain ⟨us, rfl, hr⟩ := h
      exact ⟨by simpa [Value.cells] using hr, by simpa [Value.cells] using leaves_one hr hl⟩
    · cases hc
  | _ =>
    simp only [V.cells] at hc
    split at hc
    · rename_i hl
      exact one hl (Option.some.inj hc).symm
    · cases hc

/-- A parameter is put into a variable of its own. -/
theorem ot_box_cp {o : Oper} {d n T : Nat} {x : Operand} {y : XO} {cs : List V} {K : St → Prop} (ho : o.op = .box T x) (hd : o.dst = some d) (hdN : d < N) (hx : cO n x = some y)
    (hc : (st.val y).cp = true) (hcs : (st.val y).cells = some cs) (hk : K (st.put d (.box cs))) : OT P N o st K := by
  intro B a w S fp next Q hr hn
  unfold Oper.wp
  have hrun : (execOp a.eval o).run P w = .ok (.value (.pointer (some ⟨w.heap.size, 0, none⟩))) (w.alloc (.cells (a.eval x).cells T)) := by
    simp [execOp, ho, Instr.box, run_newVar]
  rw [hrun]
  show next (a.put o.dst _) _
  rw [hd]
  have hv := RV.cp_none _ _ _ hc (hr.val hx)
  have := hr.new_box d hdN T cs _ CS.none (V.cells_spec hv hcs).1 (fun _ _ => CS.none_dj _) (CS.none_dj _) (fun _ _ h => h.elim) (fun _ _ h => h.elim)
  simp only [Array.toArray_toList] at this
  exact hn _ _ _ _ _ hk this

theorem AlOk.drop {x : Al} {u : Value} (r : Nat) (h : AlOk w a st x u) : AlOk w a (st.put r .hole) x u := by
  obtain ⟨h1, h2, h3⟩ := h
  by_cases e : x.root = r
  · refine ⟨?_, ?_, ?_⟩ <;> simp only [St.put, e, if_true] at *
    · omega
    · omega
    · intro e1; omega
  · refine ⟨?_, ?_, ?_⟩ <;> simp only [St.put, e, if_false]
    · exact h1
    · exact h2
    · exact h3
theorem dj_drop (h : Rl B N st a w S fp) (r i : Nat) : (fp r).dj (if i = r then CS.none else fp i) := by
  by_cases e : i = r
  · simp only [e, if_true]; exact (CS.none_dj _).symm
  · simp only [e, if_false]; exact h.dj r i (Ne.symm e)

theorem ot_box_tk {o : Oper} {d r T : Nat} {cs : List V} {K : St → Prop} (ho : o.op = .box T (.tmp r)) (hd : o.dst = some d) (hdN : d < N)
    (hcs : (st r).v.cells = some cs) (hk : K ((st.put r .hole).put d (.box cs))) : OT P N o st K := by
  intro B a w S fp next Q hr hn
  unfold Oper.wp
  have hrun : (execOp a.eval o).run P w = .ok (.value (.pointer (some ⟨w.heap.size, 0, none⟩))) (w.alloc (.cells (tm a r).cells T)) := by
    simp [execOp, ho, Instr.box, run_newVar, Act.eval, tm]
  rw [hrun]
  show next (a.put o.dst _) _
  rw [hd]
  have hv := RV.frame (CS.le.refl _) (fun x u h => AlOk.drop r h) (Agree.refl _ _) _ _ _ _ (CS.le.refl _) (Agree.refl _ _) (hr.rv r)
  have := (hr.drop r).new_box d hdN T cs _ (fp r) (V.cells_spec hv hcs).1 (fun i _ => dj_drop hr r i) (hr.djS r) (hr.lt r) (hr.own r)
  simp only [Array.toArray_toList] at this
  exact hn _ _ _ _ _ hk this
end
end Go.Proofs.YtainknkfjekngaaDoor.Vm
