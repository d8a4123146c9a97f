/- The frame of a call: its temporaries as the machine's values, and how they lie. -/
import Derived.Test.YtainknkfjekngaaDoorVm1
namespace Go.Proofs.YtainknkfjekngaaDoor.Vm
open Go
set_option linter.unusedVariables false
set_option linter.unusedSimpArgs false

structure Cell where
  v : V
  ver : Nat
  hv : Nat
abbrev St := Nat → Cell
def St.put (st : St) (d : Nat) (v : V) : St := fun i => if i = d then ⟨v, (st d).ver + 1, (st d).hv + 1⟩ else st i
def St.mod (st : St) (r : Nat) (v : V) : St := fun i => if i = r then ⟨v, (st r).ver, (st r).hv + 1⟩ else st i
/-- Own slices are taken out: holes stay. -/
def St.tk (st : St) (r : Nat) (v : V) : St := fun i => if i = r then ⟨v, (st r).ver, (st r).hv⟩ else st i
def V.nh : V → Bool
  | .hole => false
  | _ => true
/-- Does a path lead through no hole? -/
def V.pok : V → List (Nat × Nat) → Bool
  | v, (i, k) :: q :: p => match v.elem i with
    | some cs => match cs[k]? with
      | some c => c.nh && c.pok (q :: p)
      | none => true
    | none => true
  | _, _ => true

/-- A name that is given without a look: of a struct, if it is one. -/
def Al.bx (x : Al) : Bool := x.ptr && x.path.isEmpty
/-- The path of a name. -/
def Al.pth (x : Al) : List (Nat × Nat) := if x.bx then [(0, 0)] else x.path
theorem Al.pth_f {x : Al} (h : x.ptr = false) : x.pth = x.path := by simp [Al.pth, Al.bx, h]
theorem Al.pth_n {x : Al} (h : x.path ≠ []) : x.pth = x.path := by
  have : x.path.isEmpty = false := by cases hx : x.path <;> simp_all
  simp [Al.pth, Al.bx, this]
def Al.short (x : Al) : Bool := x.ptr && decide (x.pth.length = 1)

def Al.fit (x : Al) (v : V) : Prop := (x.bx = true → (v.place (.pointer (some ⟨0, 0, none⟩)) 0).isSome = true) ∧ v.pok x.pth = true
theorem pok_one (v : V) {p : List (Nat × Nat)} (h : p.length = 1) : v.pok p = true := by
  match p, h with
  | [_], _ => rfl
theorem pok_short {x : Al} (h : x.short = true) (v : V) : v.pok x.pth = true := by
  simp only [Al.short, Bool.and_eq_true, decide_eq_true_eq] at h
  exact pok_one v h.2
/-- What a name means: the address of its place, or what the place holds. -/
def Loc (w : World) (v : V) (u0 : Value) : Bool → List (Nat × Nat) → Value → Prop
  | true, p, u => ∃ b x, addr w v u0 p = some (b, x) ∧ u = .pointer (some ⟨b, x, none⟩)
  | false, [], u => u = u0
  | false, q :: p, u => ∃ b x, addr w v u0 (q :: p) = some (b, x) ∧ w.cell? ⟨b, x, none⟩ = some u ∧ ∃ cs, v.getR 1 (q :: p) = some cs

def tm (a : Act) (i : Nat) : Value := a.tmps.getD i undef

/-- A struct in a block of its own. -/
def V.isBx (v : V) : Bool := (v.place (.pointer (some ⟨0, 0, none⟩)) 0).isSome
def AlOk (w : World) (a : Act) (st : St) : AlSem := fun x u =>
  x.ver ≤ (st x.root).ver ∧ x.hv ≤ (st x.root).hv ∧ (x.ver = (st x.root).ver → (x.short = true ∨ x.hv = (st x.root).hv) → x.fit (st x.root).v → Loc w (st x.root).v (tm a x.root) x.ptr x.pth u)

/-- Where an address is found there is no hole on the way. -/
theorem pok_addr {w : World} : ∀ {p : List (Nat × Nat)} {v : V} {u : Value} {bx : Nat × Nat}, addr w v u p = some bx → v.pok p = true
  | [], _, _, _, _ => rfl
  | [_], _, _, _, _ => rfl
  | (i, k) :: q :: p, v, u, bx, h => by
    simp only [addr] at h
    simp only [V.pok]
    cases he : v.elem i with
    | none => rfl
    | some cs =>
      rw [he] at h
      simp only [Option.bind_some] at h ⊢
      cases hc : cs[k]? with
      | none => rfl
      | some c =>
        rw [hc] at h
        simp only [Option.bind_some] at h
        cases hp : v.place u i with
        | none => rw [hp] at h; simp at h
        | some bo =>
          rw [hp] at h
          simp only [Option.bind_some] at h
          cases hu : w.cell? ⟨bo.1, bo.2 + k, none⟩ with
          | none => rw [hu] at h; simp at h
          | some u' =>
            rw [hu] at h
            simp only [Option.bind_some] at h
            have ih := pok_addr h
            cases c with
            | hole =>
              cases p with
              | nil => simp [addr, V.place] at h
              | cons q2 p => simp [addr, V.elem] at h
            | _ => simp only [V.nh, ih, Bool.and_self]
theorem addr_agree {S : CS} {A : AlSem} : ∀ (p : List (Nat × Nat)) (w w' : World) (v : V) (u : Value) (F : CS), RV w S A v u F → Agree w w' F → addr w' v u p = addr w v u p
  | [], _, _, _, _, _, _, _ => rfl
  | [(i, k)], _, _, _, _, _, _, _ => rfl
  | (i, k) :: q :: p, w, w', v, u, F, h, hw => by
    simp only [addr]
    cases he : v.elem i with
    | none => rfl
    | some es =>
      simp only [Option.bind_some]
      cases hc : es[k]? with
      | none => rfl
      | some c =>
        simp only [Option.bind_some]
        obtain ⟨hk, _⟩ := List.getElem?_eq_some_iff.1 hc
        obtain ⟨b, x, us, F1, hp, hf⟩ := focus_elem h he
        obtain ⟨us', F1', hf'⟩ := hf.sub k 1 (by omega)
        rw [drop_take_one es k c hc] at hf'
        obtain ⟨u', ur, Fx, Fy, rfl, lx, ly, dxy, hcv, hr⟩ := hf'.rl
        obtain ⟨g1, g2, g3⟩ := hf'.cells 0 (by simp)
        simp at g1 g2
        simp only [hp, Option.bind_some, g2, (hw _ _ g1).1]
        exact addr_agree (q :: p) w w' c u' Fx hcv (hw.mono (lx.trans hf'.le))

theorem Loc.agree {w w' : World} {S : CS} {A : AlSem} {v : V} {u0 u : Value} {ptr : Bool} {p : List (Nat × Nat)} {F : CS} (h : RV w S A v u0 F) (hw : Agree w w' F) (hl : Loc w v u0 ptr p u) : Loc w' v u0 ptr p u := by
  match ptr, p, hl with
  | true, p, hl =>
    obtain ⟨b, x, ha, hu⟩ := hl
    exact ⟨b, x, by rw [addr_agree p w w' v u0 F h hw]; exact ha, hu⟩
  | false, [], hl => exact hl
  | false, q :: p, hl =>
    obtain ⟨b, x, ha, hu, cs, hg⟩ := hl
    refine ⟨b, x, by rw [addr_agree _ w w' v u0 F h hw]; exact ha, ?_, cs, hg⟩
    obtain ⟨b', x', us, F1, put, ha', hf, _, hcl⟩ := focus_path 1 (q :: p) w S A v u0 F cs h hg
    rw [ha] at ha'
    obtain ⟨rfl, rfl⟩ : b = b' ∧ x = x' := by simpa using ha'
    have hc0 := (hf.cells 0 (by omega)).1
    simp at hc0
    rw [(hw _ _ hc0).1]; exact hu

/-- Variables of the library's that are never written, and what they hold. -/
def glbs : List (String × (Array Value → Prop)) :=
  [("internal/strconv.uint64pow10", fun v => v = (Lib.pow10Tab.map fun z => Value.int .u64 z).toArray), ("internal/bytealg.MaxLen", fun v => ∃ m, v = #[.int .i64 m])]
/-- Only a program that writes numbers in figures leans on them. -/
def doorB (P : Program) : Bool := (P.globalNamed "internal/strconv.uint64pow10").isSome
def TabW (P : Program) (w : World) : Prop :=
  ∀ name ok, (name, ok) ∈ glbs → ∀ g, P.globalNamed name = some g → g < w.heap.size ∧ ∃ v, w.var? P name = some v ∧ ok v
def TabInv (P : Program) (w : World) (S : CS) : Prop :=
  doorB P = true → ∀ name ok, (name, ok) ∈ glbs → ∀ g, P.globalNamed name = some g → (∀ x, S g x) ∧ g < w.heap.size ∧ ∃ v, w.var? P name = some v ∧ ok v
theorem TabInv.mono {P : Program} {w : World} {S S' : CS} (h : TabInv P w S) (hS : S.le S') : TabInv P w S' := fun hd name ok hm g hg => by
  obtain ⟨h1, h2⟩ := h hd name ok hm g hg
  exact ⟨fun x => hS _ _ (h1 x), h2⟩
theorem TabInv.keep {P : Program} {w w' : World} {S S' : CS} (h : TabInv P w S) (hS : S.le S') (hb : ∀ g, (∀ x, S g x) → g < w.heap.size → w'.heap[g]? = w.heap[g]?) : TabInv P w' S' := fun hd name ok hm g hg => by
  obtain ⟨h1, h2, v, h3, h4⟩ := h hd name ok hm g hg
  have e := hb g h1 h2
  refine ⟨fun x => hS _ _ (h1 x), ?_, v, ?_, h4⟩
  · rw [Array.getElem?_eq_getElem h2] at e
    exact (Array.getElem?_eq_some_iff.1 e).1
  · simp only [World.var?, hg, Option.bind_some, e] at h3 ⊢; exact h3

/-- What the call finds when it begins: the memory, the cells that nobody writes, the cells that are handed to it. -/
structure Base (P : Program) where
  w0 : World
  S0 : CS
  O0 : CS
  t0 : Nat → Value
  tab : TabInv P w0 S0
  os : O0.dj S0
def fresh (w : World) : CS := fun b _ => w.heap.size ≤ b

def ObjSame (O : Nat → Prop) (o o' : Obj) : Prop := o' = o ∨ (∀ x, O x) ∨ ∃ c c' t f, o = .cells c t f ∧ o' = .cells c' t f ∧ c'.size = c.size ∧ ∀ x, ¬ O x → c'[x]? = c[x]?

structure Pres (O : CS) (w w' : World) : Prop where
  os : w'.os = w.os
  output : w'.output = w.output
  size : w.heap.size ≤ w'.heap.size
  obj : ∀ b o, w.heap[b]? = some o → ∃ o', w'.heap[b]? = some o' ∧ ObjSame (O b) o o'

theorem ObjSame.refl (O : Nat → Prop) (o : Obj) : ObjSame O o o := .inl rfl
theorem Pres.refl (O : CS) (w : World) : Pres O w w := ⟨rfl, rfl, Nat.le_refl _, fun b o h => ⟨o, h, .refl _ _⟩⟩
theorem ObjSame.trans {O O' : Nat → Prop} {o1 o2 o3 : Obj} (h : ObjSame O o1 o2) (h' : ObjSame O' o2 o3) (hO : ∀ x, O' x → O x) : ObjSame O o1 o3 := by
  rcases h with rfl | h | ⟨c, c', t, f, rfl, rfl, hs, hx⟩
  · rcases h' with rfl | h' | ⟨c, c', t, f, rfl, rfl, hs, hx⟩
    · exact .inl rfl
    · exact .inr (.inl fun x => hO x (h' x))
    · exact .inr (.inr ⟨c, c', t, f, rfl, rfl, hs, fun x hn => hx x (fun h => hn (hO x h))⟩)
  · exact .inr (.inl h)
  · rcases h' with rfl | h' | ⟨c2, c3, t, f, h1, rfl, hs', hx'⟩
    · exact .inr (.inr ⟨c, c', t, f, rfl, rfl, hs, hx⟩)
    · exact .inr (.inl fun x => hO x (h' x))
    · obtain ⟨rfl, rfl, rfl⟩ : c' = c2 ∧ _ = t ∧ _ = f := by simpa using h1
      exact .inr (.inr ⟨c, c3, _, _, rfl, rfl, hs'.trans hs, fun x hn => (hx' x (fun h => hn (hO x h))).trans (hx x hn)⟩)
theorem heap_lt {w : World} {b : Nat} {o : Obj} (h : w.heap[b]? = some o) : b < w.heap.size := (Array.getElem?_eq_some_iff.1 h).1
theorem Pres.trans {O O' : CS} {w w1 w2 : World} (h : Pres O w w1) (h' : Pres O' w1 w2) (hO : ∀ b x, b < w.heap.size → O' b x → O b x) : Pres O w w2 :=
  ⟨h'.os.trans h.os, h'.output.trans h.output, Nat.le_trans h.size h'.size, fun b o ho => by
    obtain ⟨o1, h1, s1⟩ := h.obj b o ho
    obtain ⟨o2, h2, s2⟩ := h'.obj b o1 h1
    exact ⟨o2, h2, s1.trans s2 (fun x => hO b x (heap_lt ho))⟩⟩
theorem Pres.mono {O O' : CS} {w w' : World} (h : Pres O w w') (hO : ∀ b x, b < w.heap.size → O b x → O' b x) : Pres O' w w' :=
  (Pres.refl O' w).trans h hO

theorem Pres.cell {O : CS} {w w' : World} (h : Pres O w w') {b x : Nat} (hb : b < w.heap.size) (hn : ¬ O b x) : w'.cell? ⟨b, x, none⟩ = w.cell? ⟨b, x, none⟩ := by
  obtain ⟨o, ho⟩ : ∃ o, w.heap[b]? = some o := ⟨_, Array.getElem?_eq_getElem hb⟩
  obtain ⟨o', ho', hs⟩ := h.obj b o ho
  rcases hs with rfl | hs | ⟨c, c', t, f, rfl, rfl, hsz, hx⟩
  · simp [World.cell?, ho, ho']
  · exact absurd (hs x) hn
  · simp [World.cell?, ho, ho', hx x hn]
theorem Pres.frozen {O : CS} {w w' : World} (h : Pres O w w') {b x : Nat} (hb : b < w.heap.size) (hn : ¬ O b x) : w'.frozen? ⟨b, x, none⟩ = w.frozen? ⟨b, x, none⟩ := by
  obtain ⟨o, ho⟩ : ∃ o, w.heap[b]? = some o := ⟨_, Array.getElem?_eq_getElem hb⟩
  obtain ⟨o', ho', hs⟩ := h.obj b o ho
  rcases hs with rfl | hs | ⟨c, c', t, f, rfl, rfl, hsz, hx⟩
  · simp [World.frozen?, ho, ho']
  · exact absurd (hs x) hn
  · simp [World.frozen?, ho, ho']
theorem Pres.block {O : CS} {w w' : World} (h : Pres O w w') {b : Nat} (hb : b < w.heap.size) (hn : ∀ x, ¬ O b x) : w'.heap[b]? = w.heap[b]? := by
  obtain ⟨o, ho⟩ : ∃ o, w.heap[b]? = some o := ⟨_, Array.getElem?_eq_getElem hb⟩
  obtain ⟨o', ho', hs⟩ := h.obj b o ho
  rw [ho, ho']
  rcases hs with rfl | hs | ⟨c, c', t, f, rfl, rfl, hsz, hx⟩
  · rfl
  · exact absurd (hs 0) (hn 0)
  · have : c' = c := Array.ext_getElem? fun x => hx x (hn x)
    rw [this]
theorem Pres.plb {O : CS} {w w' : World} (h : Pres O w w') {b x : Nat} (hn : ¬ O b x) (hp : PlB w b) : PlB w' b := by
  obtain ⟨c, t, hb⟩ := hp
  obtain ⟨o', ho', hs⟩ := h.obj b _ hb
  rcases hs with rfl | hs | ⟨c1, c', t', f, h1, rfl, hsz, hx⟩
  · exact ⟨c, t, ho'⟩
  · exact absurd (hs x) hn
  · cases h1; exact ⟨c', t, ho'⟩
theorem Pres.agree {O : CS} {w w' : World} (h : Pres O w w') {G : CS} (hlt : ∀ b x, G b x → b < w.heap.size) (hd : G.dj O) : Agree w w' G :=
  fun b x hg => ⟨h.cell (hlt b x hg) (fun ho => hd b x hg ho), ⟨h.frozen (hlt b x hg) (fun ho => hd b x hg ho), h.plb (fun ho => hd b x hg ho)⟩, fun hg' => h.block (hlt b x hg) fun y ho => hd b y (hg' y) ho⟩

/-- The machine's frame and the model's, side by side. -/
structure Rl {P : Program} (B : Base P) (N : Nat) (st : St) (a : Act) (w : World) (S : CS) (fp : Nat → CS) : Prop where
  size : a.tmps.size = N
  defers : a.defers = []
  dj : ∀ i j, i ≠ j → (fp i).dj (fp j)
  djS : ∀ i, (fp i).dj S
  lt : ∀ i b x, fp i b x → b < w.heap.size
  ltS : ∀ b x, S b x → b < w.heap.size
  rv : ∀ i, RV w S (AlOk w a st) (st i).v (tm a i) (fp i)
  pres : Pres B.O0 B.w0 w
  s0 : B.S0.le S
  own : ∀ i b x, fp i b x → B.O0 b x ∨ fresh B.w0 b x
  shr : ∀ b x, S b x → B.S0 b x ∨ B.O0 b x ∨ fresh B.w0 b x
  keep : ∀ i, (st i).ver = 0 → tm a i = B.t0 i

section
variable {P : Program} {B : Base P} {N : Nat} {st : St} {a : Act} {w : World} {S : CS} {fp : Nat → CS}

theorem Rl.tab (h : Rl B N st a w S fp) : TabInv P w S := B.tab.keep h.s0 fun g h1 h2 => h.pres.block h2 fun x ho => B.os g x ho (h1 x)

/-- Memory goes on: nothing that is spoken of has turned. -/
theorem Rl.world (h : Rl B N st a w S fp) {w' : World} {S' : CS} {O : CS} (hp : Pres O w w') (hO : ∀ b x, O b x → (B.O0 b x ∨ fresh B.w0 b x) ∧ (∀ i, ¬ fp i b x) ∧ ¬ S b x)
    (hS : S.le S') (hS' : ∀ b x, S' b x → b < w'.heap.size ∧ (B.S0 b x ∨ B.O0 b x ∨ fresh B.w0 b x)) (hdj : ∀ i, (fp i).dj S') : Rl B N st a w' S' fp := by
  have hag : ∀ i, Agree w w' (fp i) := fun i => hp.agree (h.lt i) (fun b x hf ho => (hO b x ho).2.1 i hf)
  have hagS : Agree w w' S := hp.agree h.ltS (fun b x hf ho => (hO b x ho).2.2 hf)
  have hA : ∀ x u, AlOk w a st x u → AlOk w' a st x u := fun x u ⟨h1, h2, h3⟩ => ⟨h1, h2, fun e1 e2 e3 => (h3 e1 e2 e3).agree (h.rv x.root) (hag _)⟩
  refine ⟨h.size, h.defers, h.dj, hdj, fun i b x hf => Nat.lt_of_lt_of_le (h.lt i b x hf) hp.size, fun b x hs => (hS' b x hs).1, fun i => RV.frame hS hA hagS _ _ _ _ (CS.le.refl _) (hag i) (h.rv i), ?_, h.s0.trans hS, h.own, fun b x hs => (hS' b x hs).2, h.keep⟩
  refine h.pres.trans hp (fun b x hb ho => ?_)
  rcases (hO b x ho).1 with h1 | h1
  · exact h1
  · exact absurd h1 (Nat.not_le.2 hb)

/-- A temporary is forgotten. -/
theorem Rl.drop (h : Rl B N st a w S fp) (r : Nat) : Rl B N (st.put r .hole) a w S (fun i => if i = r then CS.none else fp i) := by
  have hle : ∀ i, (if i = r then CS.none else fp i).le (fp i) := fun i => by split; exact CS.none_le _; exact CS.le.refl _
  have hA : ∀ x u, AlOk w a st x u → AlOk w a (st.put r .hole) x u := by
    intro x u ⟨h1, h2, h3⟩
    by_cases e : x.root = r
    · refine ⟨?_, ?_, ?_⟩ <;> simp only [St.put, e, if_true] at *
      · omega
      · omega
      · intro e1; omega
    · refine ⟨?_, ?_, ?_⟩ <;> simp only [St.put, e, if_false]
      · exact h1
      · exact h2
      · exact h3
  refine ⟨h.size, h.defers, fun i j hij => (h.dj i j hij).mono (hle i) (hle j), fun i => (h.djS i).mono (hle i) (CS.le.refl _), fun i b x hf => h.lt i b x (hle i b x hf), h.ltS, fun i => ?_, h.pres, h.s0, fun i b x hf => h.own i b x (hle i b x hf), h.shr, fun i hi => h.keep i (by by_cases e : i = r <;> simp [St.put, e] at hi; exact hi)⟩
  by_cases e : i = r
  · simp [St.put, e, RV]
  · simp only [St.put, e, if_false]
    exact RV.frame (CS.le.refl _) hA (Agree.refl _ _) _ _ _ _ (CS.le.refl _) (Agree.refl _ _) (h.rv i)

theorem tm_put (a : Act) (d : Nat) (v : Value) (i : Nat) : tm (a.put (some d) v) i = if i = d ∧ d < a.tmps.size then v else tm a i := by
  simp only [tm, Act.put]
  by_cases hd : d < a.tmps.size
  · by_cases hi : i = d
    · subst hi; simp [Array.getD, hd]
    · simp only [hi, false_and, if_false]
      simp only [Array.getD_eq_getD_getElem?]
      rw [Array.getElem?_setIfInBounds_ne (Ne.symm hi)]
  · simp [Array.setIfInBounds, hd]

/-- A temporary is given a value. -/
theorem Rl.put (h : Rl B N st a w S fp) (d : Nat) (V0 : V) (v : Value) (F : CS) (hd : d < N) (hv : RV w S (AlOk w a st) V0 v F)
    (hF : ∀ i, i ≠ d → F.dj (fp i)) (hFS : F.dj S) (hlt : ∀ b x, F b x → b < w.heap.size) (hO : ∀ b x, F b x → B.O0 b x ∨ fresh B.w0 b x) :
    Rl B N (st.put d V0) (a.put (some d) v) w S (fun i => if i = d then F else fp i) := by
  have htm : ∀ i, tm (a.put (some d) v) i = if i = d then v else tm a i := fun i => by rw [tm_put, h.size]; simp [hd]
  have hA : ∀ x u, AlOk w a st x u → AlOk w (a.put (some d) v) (st.put d V0) x u := by
    intro x u ⟨h1, h2, h3⟩
    by_cases e : x.root = d
    · refine ⟨?_, ?_, ?_⟩ <;> simp only [St.put, e, if_true] at *
      · omega
      · omega
      · intro e1; omega
    · refine ⟨?_, ?_, ?_⟩ <;> simp only [St.put, e, if_false, htm]
      · exact h1
      · exact h2
      · exact h3
  refine ⟨by simp [Act.put, h.size], h.defers, ?_, ?_, ?_, h.ltS, fun i => ?_, h.pres, h.s0, ?_, h.shr, fun i hi => ?_⟩
  · intro i j hij
    by_cases hi : i = d
    · simp only [hi, if_true, show ¬ j = d from fun e => hij (hi.trans e.symm), if_false]
      exact hF j (fun e => hij (hi.trans e.symm))
    · by_cases hj : j = d
      · simp only [hi, hj, if_true, if_false]; exact (hF i hi).symm
      · simp only [hi, hj, if_false]; exact h.dj i j hij
  · intro i; by_cases hi : i = d
    · simp only [hi, if_true]; exact hFS
    · simp only [hi, if_false]; exact h.djS i
  · intro i b x hf; by_cases hi : i = d
    · simp only [hi, if_true] at hf; exact hlt b x hf
    · simp only [hi, if_false] at hf; exact h.lt i b x hf
  · by_cases hi : i = d
    · simp only [hi, if_true, St.put, htm]
      exact RV.frame (CS.le.refl _) hA (Agree.refl _ _) _ _ _ _ (CS.le.refl _) (Agree.refl _ _) hv
    · simp only [hi, if_false, St.put, htm]
      exact RV.frame (CS.le.refl _) hA (Agree.refl _ _) _ _ _ _ (CS.le.refl _) (Agree.refl _ _) (h.rv i)
  · intro i b x hf; by_cases hi : i = d
    · simp only [hi, if_true] at hf; exact hO b x hf
    · simp only [hi, if_false] at hf; exact h.own i b x hf
  · by_cases e : i = d
    · simp [St.put, e] at hi
    · simp only [St.put, e, if_false] at hi
      rw [htm]; simp only [e, if_false]; exact h.keep i hi

theorem Rl.put_cp (h : Rl B N st a w S fp) (d : Nat) (V0 : V) (v : Value) (F : CS) (hd : d < N) (hv : RV w S (AlOk w a st) V0 v F) (hc : V0.cp = true) :
    Rl B N (st.put d V0) (a.put (some d) v) w S (fun i => if i = d then CS.none else fp i) :=
  h.put d V0 v CS.none hd (RV.cp_none V0 v F hc hv) (fun _ _ => CS.none_dj _) (CS.none_dj _) (fun _ _ h => h.elim) (fun _ _ h => h.elim)

/-- An operation without a destination. -/
theorem Rl.put_none (h : Rl B N st a w S fp) (v : Value) : Rl B N st (a.put none v) w S fp := h

/-- What a temporary owns turns; where it lies does not. -/
theorem Rl.mod (h : Rl B N st a w S fp) (r : Nat) (V1 : V) {w' : World} {S' : CS} (F : CS) {O : CS} (hp : Pres O w w')
    (hO : ∀ b x, O b x → (B.O0 b x ∨ fresh B.w0 b x) ∧ (∀ i, i ≠ r → ¬ fp i b x) ∧ ¬ S b x)
    (hS : S.le S') (hS' : ∀ b x, S' b x → b < w'.heap.size ∧ (B.S0 b x ∨ B.O0 b x ∨ fresh B.w0 b x)) (hdj : ∀ i, i ≠ r → (fp i).dj S')
    (hpl : ∀ u i, V1.place u i = (st r).v.place u i)
    (hv : (∀ x u, AlOk w a st x u → AlOk w' a (st.mod r V1) x u) → RV w' S' (AlOk w' a (st.mod r V1)) V1 (tm a r) F)
    (hF : ∀ i, i ≠ r → F.dj (fp i)) (hFS : F.dj S') (hlt : ∀ b x, F b x → b < w'.heap.size) (hOF : ∀ b x, F b x → B.O0 b x ∨ fresh B.w0 b x) :
    Rl B N (st.mod r V1) a w' S' (fun i => if i = r then F else fp i) := by
  have hag : ∀ i, i ≠ r → Agree w w' (fp i) := fun i hi => hp.agree (h.lt i) (fun b x hf ho => (hO b x ho).2.1 i hi hf)
  have hagS : Agree w w' S := hp.agree h.ltS (fun b x hf ho => (hO b x ho).2.2 hf)
  have hA : ∀ x u, AlOk w a st x u → AlOk w' a (st.mod r V1) x u := by
    intro x u ⟨h1, h2, h3⟩
    by_cases e : x.root = r
    · refine ⟨?_, ?_, ?_⟩ <;> simp only [St.mod, e, if_true] at *
      · exact h1
      · omega
      · intro e1 e2 e5
        rcases e2 with e2 | e2
        · have h4 := h3 e1 (.inl e2) ⟨fun hb => by have := e5.1 hb; rwa [hpl] at this, pok_short e2 _⟩
          simp only [Al.short, Bool.and_eq_true, decide_eq_true_eq] at e2
          obtain ⟨e2, e3⟩ := e2
          rw [e2] at h4 ⊢
          match hx : x.pth, e3 with
          | [(i, k)], _ =>
            rw [hx] at h4
            simp only [Loc, addr] at h4 ⊢
            rw [hpl]; exact h4
        · omega
    · refine ⟨?_, ?_, ?_⟩ <;> simp only [St.mod, e, if_false]
      · exact h1
      · exact h2
      · exact fun e1 e2 e3 => (h3 e1 e2 e3).agree (h.rv x.root) (hag _ e)
  refine ⟨h.size, h.defers, ?_, ?_, ?_, fun b x hs => (hS' b x hs).1, fun i => ?_, ?_, h.s0.trans hS, ?_, fun b x hs => (hS' b x hs).2, fun i hi => h.keep i (by by_cases e : i = r <;> simp [St.mod, e] at hi ⊢ <;> exact hi)⟩
  · intro i j hij
    by_cases hi : i = r
    · simp only [hi, if_true, show ¬ j = r from fun e => hij (hi.trans e.symm), if_false]
      exact hF j (fun e => hij (hi.trans e.symm))
    · by_cases hj : j = r
      · simp only [hi, hj, if_true, if_false]; exact (hF i hi).symm
      · simp only [hi, hj, if_false]; exact h.dj i j hij
  · intro i; by_cases hi : i = r
    · simp only [hi, if_true]; exact hFS
    · simp only [hi, if_false]; exact hdj i hi
  · intro i b x hf; by_cases hi : i = r
    · simp only [hi, if_true] at hf; exact hlt b x hf
    · simp only [hi, if_false] at hf; exact Nat.lt_of_lt_of_le (h.lt i b x hf) hp.size
  · by_cases hi : i = r
    · subst hi
      simp only [if_true]
      have := hv hA
      simpa [St.mod] using this
    · simp only [hi, if_false, St.mod]
      exact RV.frame hS hA hagS _ _ _ _ (CS.le.refl _) (hag i hi) (h.rv i)
  · refine h.pres.trans hp (fun b x hb ho => ?_)
    rcases (hO b x ho).1 with h1 | h1
    · exact h1
    · exact absurd h1 (Nat.not_le.2 hb)
  · intro i b x hf; by_cases hi : i = r
    · simp only [hi, if_true] at hf; exact hOF b x hf
    · simp only [hi, if_false] at hf; exact h.own i b x hf
end
end Go.Proofs.YtainknkfjekngaaDoor.Vm
