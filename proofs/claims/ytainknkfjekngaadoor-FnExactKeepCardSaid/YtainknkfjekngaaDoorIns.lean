/- slices.Insert at an own slice: what it hands back. The library's own text is walked, at elements of any number of cells. -/
import Derived.Test.YtainknkfjekngaaDoorT7
import Derived.Test.YtainknkfjekngaaDoorProg
import Derived.KernelRfl
import Derived.Shelf.Spec.SlicesInsertGrow
namespace Go.Proofs
open Go Go.Shelf Go.RowKit Go.Lib
namespace YtainknkfjekngaaDoor
open Vm
namespace Ins
set_option linter.unusedVariables false
set_option linter.unusedSimpArgs false

/-- What the walk asks of a program: the function's text, its types, the size k of an element. -/
structure Lay (P : Program) (ρ : Shelf.Ren) (nm : String) (k by_ : Nat) (z : Value) : Prop where
  mixed : P.follows .mixedOrders = true
  f22 : P.funcs[ρ.f 22]? = some { Body2.n22 ρ with name := nm }
  t0 : P.underlying (ρ.t 0) = some (TypeDesc.tuple #[])
  a0 : ∀ w, (isAgg (ρ.t 0)).run P w = .ok false w
  z0 : ∀ w, (Go.sizeOf (ρ.t 0)).run P w = .ok 1 w
  v0 : ∀ w, (zeroValue (ρ.t 0)).run P w = .ok (Value.tuple #[]) w
  t3 : P.underlying (ρ.t 3) = some (TypeDesc.int IntKind.i64)
  a3 : ∀ w, (isAgg (ρ.t 3)).run P w = .ok false w
  z3 : ∀ w, (Go.sizeOf (ρ.t 3)).run P w = .ok 1 w
  v3 : ∀ w, (zeroValue (ρ.t 3)).run P w = .ok (Value.int IntKind.i64 0) w
  t4 : P.underlying (ρ.t 4) = some (TypeDesc.bool)
  a4 : ∀ w, (isAgg (ρ.t 4)).run P w = .ok false w
  z4 : ∀ w, (Go.sizeOf (ρ.t 4)).run P w = .ok 1 w
  v4 : ∀ w, (zeroValue (ρ.t 4)).run P w = .ok (Value.bool false) w
  z9 : ∀ w, (Go.sizeOf (ρ.t 9)).run P w = .ok k w
  t24 : P.underlying (ρ.t 24) = some (TypeDesc.slice (ρ.t 9))
  a24 : ∀ w, (isAgg (ρ.t 24)).run P w = .ok false w
  z24 : ∀ w, (Go.sizeOf (ρ.t 24)).run P w = .ok 1 w
  v24 : ∀ w, (zeroValue (ρ.t 24)).run P w = .ok (Value.slice none 0 0) w
  i9 : ∃ i, P.info? (ρ.t 9) = some i ∧ i.zero = some z ∧ i.size = k ∧ i.bytes = by_
  zk : z.cells.size = k
  k0 : 0 < k
  f29 : ∀ u v w r, (Extern.SlicesOverlaps.overlaps #[ρ.t 24, ρ.t 24] #[ρ.t 4] #[u, v]).run P w = .ok r w → (callFunc (ρ.f 29) #[u, v]).run P w = .ok (.value r) w

variable {P : Program} {ρ : Shelf.Ren} {nm : String} {k by_ : Nat} {z : Value}

theorem run_copyK (w : World) (dT sT ty elem : TypeId) (b o dLen dCap : Nat) (a : Addr) (sLen sCap : Nat) (cs : List Value)
    (hu : P.underlying dT = some (.slice elem)) (hs : (P.info? elem).map (·.size) = some k) (hn : cs.length = Nat.min sLen dLen * k)
    (hsrc : ∀ j v, cs[j]? = some v → w.cell? (a.add j) = some v) (hc : ∀ j, j < cs.length → (w.cell? ⟨b, o + j, none⟩).isSome = true) (hf : ∀ j, j < cs.length → w.frozen? ⟨b, o + j, none⟩ = false) (h1 : ∀ v ∈ cs, v.oneCell' = true) :
    (Builtin.copy_ #[dT, sT] ty #[.slice (some ⟨b, o, none⟩) dLen dCap, .slice (some a) sLen sCap]).run P w = .ok (goInt (Nat.min sLen dLen)) (w.setCells b o cs) := by
  have hl := run_loadCells_list (P := P) w a cs hsrc
  have hst := run_storeCells_cells (P := P) b o cs 0 w (by simpa using hc) (by simpa using hf) h1
  cases hq : P.info? elem with
  | none => simp [hq] at hs
  | some i =>
    have hi : i.size = k := by simpa [hq] using hs
    simp [Builtin.copy_, run_underlying hu, Builtin.lenOf, Builtin.firstCells, sizeOf, typeInfo, hq, hi, ← hn, hl, hst]

/-- Two rows of one's own, both in plain memory: they do not overlap. -/
theorem run_overlaps_own (w : World) (tS tR e : TypeId) (ht : P.underlying tS = some (.slice e)) (size : Nat) (hz : ∀ w, (Go.sizeOf e).run P w = .ok size w)
    (a b : Addr) (la ca lb cb : Nat) (ha : PlB w a.block) (hb : PlB w b.block) (hfa : ∃ v, w.cell? ⟨a.block, a.off, none⟩ = some v) (hfb : ∃ v, w.cell? ⟨b.block, b.off, none⟩ = some v) (hno : a.block = b.block → ¬ (a.off < b.off + lb * size ∧ b.off < a.off + la * size)) (hsp : a.spot = none ∧ b.spot = none) :
    (Extern.SlicesOverlaps.overlaps #[tS, tS] #[tR] #[.slice (some a) la ca, .slice (some b) lb cb]).run P w = .ok (.bool false) w := by
  obtain ⟨ab, ao, asp⟩ := a
  obtain ⟨bb, bo, bsp⟩ := b
  obtain ⟨rfl, rfl⟩ : asp = none ∧ bsp = none := hsp
  simp only at ha hb hno hfa hfb
  change Sem.run P (α := Value) (do
    let some t := (#[tS, tS] : Array TypeId)[0]? | stuck "slices.overlaps: no parameter types"
    let .slice elem ← underlying t | stuck "slices.overlaps: slice type expected"
    let size ← sizeOf elem
    match (some (⟨ab, ao, none⟩ : Addr) : Option Addr), (some (⟨bb, bo, none⟩ : Addr) : Option Addr) with
    | some a, some b =>
      if la = 0 ∨ lb = 0 ∨ size = 0 then pure (Value.bool false)
      else if a.block != b.block && (← frozen a) && (← frozen b) then unsupported .addressObserved
      else do
        if a.block != b.block then do
          noView a; noView b
          if ← mayBeOne a b then return Value.bool ((← choose (.extern "sameAddr.stringBytes" 2)) == 1)
        pure (Value.bool (a.block == b.block && a.off < b.off + lb * size && b.off < a.off + la * size))
    | _, _ => pure (Value.bool false)) w = _
  by_cases h0 : la = 0 ∨ lb = 0 ∨ size = 0
  · simp [run_underlying ht, hz, h0]
  · by_cases he : ab = bb
    · subst he
      have hh := hno rfl
      have hq : (decide (ao < bo + lb * size) && decide (bo < ao + la * size)) = false := by
        rw [Bool.and_eq_false_iff]
        by_cases h1 : ao < bo + lb * size
        · exact .inr (decide_eq_false fun h2 => hh ⟨h1, h2⟩)
        · exact .inl (decide_eq_false h1)
      simp [run_underlying ht, hz, h0, hq]
    · have hnb : (ab != bb) = true := by simpa using he
      have hnb' : (ab == bb) = false := by simpa using he
      obtain ⟨c1, t1, h1⟩ := ha
      obtain ⟨c2, t2, h2⟩ := hb
      have f1 : ∀ x, w.frozen? ⟨ab, x, none⟩ = false := fun x => by simp [World.frozen?, h1]
      have f2 : ∀ x, w.frozen? ⟨bb, x, none⟩ = false := fun x => by simp [World.frozen?, h2]
      have s1 : w.shape? ab = some (t1, c1.size) := by simp [World.shape?, h1]
      have s2 : w.shape? bb = some (t2, c2.size) := by simp [World.shape?, h2]
      have n1 : c1.size ≠ 0 := fun h => by
        obtain ⟨v, hv⟩ := hfa
        simp only [World.cell?, h1] at hv
        rw [Array.getElem?_eq_none (by omega)] at hv; cases hv
      have n2 : c2.size ≠ 0 := fun h => by
        obtain ⟨v, hv⟩ := hfb
        simp only [World.cell?, h2] at hv
        rw [Array.getElem?_eq_none (by omega)] at hv; cases hv
      generalize c1.size = k1 at *
      generalize c2.size = k2 at *
      cases k1 with
      | zero => exact absurd rfl n1
      | succ k1 =>
        cases k2 with
        | zero => exact absurd rfl n2
        | succ k2 => simp [run_underlying ht, hz, h0, hnb, hnb', frozen, noView, viewAt, mayBeOne, stringish, shape, Sem.run, s1, s2, f1, f2]

theorem calls_named {f : FuncId} {fn : Func} {c : Code} {args : Array Value} {w : World} {R : Ending → World → Prop} (hf : P.funcs[f]? = some { fn with name := nm }) (hb : fn.body = some c)
    (h : c.wp P (bodyPost P fn R) { tmps := args ++ Array.replicate (fn.ntmps - args.size) undef, defers := [] } w) : Calls P f args w R :=
  calls_of_wp hf hb h

set_option maxHeartbeats 4000000 in
set_option maxRecDepth 100000 in
/-- At the end: it is an appending. -/
theorem ins_end (L : Lay P ρ nm k by_ z) (base : Option Addr) (n c vb voff m vc : Nat) (w : World) (hm : 0 < m) (hnc : n ≤ c) (h63 : c ≤ 9223372036854775807) (hnil : base = none → n = 0) (v' : Value) (w' : World)
    (hrun : (Builtin.append_ #[ρ.t 24, ρ.t 24] (ρ.t 24) #[.slice base n c, .slice (some ⟨vb, voff, none⟩) m vc]).run P w = .ok v' w') :
    Calls P (ρ.f 22) #[.slice base n c, .int .i64 n, .slice (some ⟨vb, voff, none⟩) m vc] w fun e w'' => e = .returned v' ∧ w'' = w' := by
  have t0 := L.t0; have a0 := L.a0; have z0 := L.z0; have v0 := L.v0; have t3 := L.t3; have a3 := L.a3; have z3 := L.z3; have v3 := L.v3; have t4 := L.t4; have a4 := L.a4; have z4 := L.z4; have v4 := L.v4; have z9 := L.z9; have t24 := L.t24; have a24 := L.a24; have z24 := L.z24; have v24 := L.v24
  have u0 := run_underlying L.t0; have u3 := run_underlying L.t3; have u4 := run_underlying L.t4; have u24 := run_underlying L.t24
  have mixed := L.mixed
  have hz1 : ¬ ((m : Int) = 0) := by omega
  refine calls_named L.f22 rfl ?_
  simp only [Body2.n22_ntmps ρ, List.size_toArray, List.length_cons, List.length_nil, Nat.reduceAdd, Nat.reduceSub, Array.replicate_succ, Array.replicate_zero, List.push_toArray, List.append_toArray, List.nil_append, List.cons_append]
  cases base with
  | none =>
    have h0 := hnil rfl
    subst h0
    go_wp2_with (at_builtin; refine Lib.wpList_append_run _ rfl _ _ _ _ rfl _ _ rfl rfl _ _ hrun ?_)
    go_ret
    exact ⟨rfl, rfl⟩
  | some a =>
    obtain ⟨ab, ao, asp⟩ := a
    go_wp2_with (at_builtin; refine Lib.wpList_append_run _ rfl _ _ _ _ rfl _ _ rfl rfl _ _ hrun ?_)
    all_goals (go_ret; exact ⟨rfl, rfl⟩)

set_option maxHeartbeats 4000000 in
set_option maxRecDepth 100000 in
/-- Ahead of the end, no room: a new row. -/
theorem ins_grow (L : Lay P ρ nm k by_ z) (b off n c i vb voff m vc : Nat) (cs vs : List Value) (w : World) (hi : i < n) (hm : 0 < m) (hnc : n ≤ c) (hroom : c < n + m) (hbig : (n + m) * by_ ≤ 140737488355328) (hmx : n + m ≤ 9223372036854775807)
    (hcl : cs.length = n * k) (hvl : vs.length = m * k)
    (hcs : ∀ j v, cs[j]? = some v → w.cell? ⟨b, off + j, none⟩ = some v)
    (hvs : ∀ j v, vs[j]? = some v → w.cell? ⟨vb, voff + j, none⟩ = some v) (h1c : ∀ v ∈ cs, v.oneCell' = true) (h1v : ∀ v ∈ vs, v.oneCell' = true) (hbw : b < w.heap.size) (hvw : vb < w.heap.size) :
    Calls P (ρ.f 22) #[.slice (some ⟨b, off, none⟩) n c, .int .i64 i, .slice (some ⟨vb, voff, none⟩) m vc] w fun e w' =>
      e = .returned (.slice (some ⟨w.heap.size, 0, none⟩) (n + m) (grownCap w (n + m) c (ρ.t 9))) ∧
      w' = (((w.alloc (.cells ((cs.take (i * k)).toArray ++ Builtin.zeroCells z.cells (n + m - i) ++ Builtin.zeroCells z.cells (grownCap w (n + m) c (ρ.t 9) - (n + m))) (ρ.t 9))).drew.setCells w.heap.size (i * k) vs).drew).setCells w.heap.size ((i + m) * k) (cs.drop (i * k)) := by
  have t0 := L.t0; have a0 := L.a0; have z0 := L.z0; have v0 := L.v0; have t3 := L.t3; have a3 := L.a3; have z3 := L.z3; have v3 := L.v3; have t4 := L.t4; have a4 := L.a4; have z4 := L.z4; have v4 := L.v4; have z9 := L.z9; have t24 := L.t24; have a24 := L.a24; have z24 := L.z24; have v24 := L.v24
  have u0 := run_underlying L.t0; have u3 := run_underlying L.t3; have u4 := run_underlying L.t4; have u24 := run_underlying L.t24
  have mixed := L.mixed
  obtain ⟨i0, hi0, hz0, hzs, hzb⟩ := L.i9
  have hzk := L.zk
  have hz1 : ¬ ((m : Int) = 0) := by omega
  have hz2 : ¬ ((i : Int) = (n : Int)) := by omega
  have hz3 : (c : Int) < (n : Int) + (m : Int) := by omega
  have hsz : (P.info? (ρ.t 9)).map (·.size) = some k := by rw [hi0]; simp [hzs]
  have hkk : (n : Int) + (m : Int) - (i : Int) = ((n + m - i : Nat) : Int) := by omega
  have hik : i + (n + m - i) = n + m := by omega
  have hki : i * k ≤ n * k := Nat.mul_le_mul_right k (by omega)
  have hold : (Builtin.firstCells i0.size i (.slice (some ⟨b, off, none⟩) i c)).run P w.drew = .ok (cs.take (i * k)).toArray w.drew := by
    rw [hzs]
    exact run_firstCells_some w.drew k i ⟨b, off, none⟩ i c (cs.take (i * k)) (by rw [List.length_take]; omega) (fun j v hj => by
      rw [Addr.add_lit]
      rw [List.getElem?_take] at hj
      split at hj
      · exact hcs j v hj
      · cases hj)
  have hrz : ∀ ty, (Builtin.append_ #[(ρ.t 24), (ρ.t 3)] ty #[.slice (some ⟨b, off, none⟩) i c, .int .i64 ((n : Int) + (m : Int) - (i : Int))]).run P w =
      .ok (.slice (some ⟨w.heap.size, 0, none⟩) (n + m) (grownCap w (n + m) c (ρ.t 9))) (w.drew.alloc (.cells ((cs.take (i * k)).toArray ++ Builtin.zeroCells z.cells (n + m - i) ++ Builtin.zeroCells z.cells (grownCap w (n + m) c (ρ.t 9) - (n + m))) (ρ.t 9))) := fun ty => by
    have h := Lib.run_append_grow_zeros w (ρ.t 24) (ρ.t 3) ty (ρ.t 9) i0 _ .i64 .i64 L.t24 L.t3 hi0 hz0 (some ⟨b, off, none⟩) i c (cs.take (i * k)) hold (n + m - i) (by omega) (by rw [hzs]; exact L.k0) (by omega) (by omega) (by
      rw [hzb]
      have := Nat.mul_le_mul_right by_ (show n + m - i ≤ n + m by omega)
      omega) (by rw [hzb, hik]; exact growslice_fits hroom hbig)
    rw [hik] at h
    rw [hkk]
    exact h
  obtain ⟨G, hG⟩ : ∃ G, G = grownCap w (n + m) c (ρ.t 9) := ⟨_, rfl⟩
  obtain ⟨ROW, hROW⟩ : ∃ ROW : Array Value, ROW = (cs.take (i * k)).toArray ++ Builtin.zeroCells z.cells (n + m - i) ++ Builtin.zeroCells z.cells (G - (n + m)) := ⟨_, rfl⟩
  rw [← hG] at hrz ⊢
  rw [← hROW] at hrz ⊢
  have hRl : (n + m) * k ≤ ROW.size := by
    rw [hROW]
    have e1 : i * k + (n + m - i) * k = (n + m) * k := by rw [← Nat.add_mul, hik]
    simp only [Array.size_append, List.size_toArray, List.length_take, size_zeroCells, hzk]
    omega
  obtain ⟨W1, hW1⟩ : ∃ W1, W1 = w.drew.alloc (.cells ROW (ρ.t 9)) := ⟨_, rfl⟩
  rw [← hW1] at hrz
  have hN : ∀ j, j < (n + m) * k → (W1.cell? ⟨w.heap.size, j, none⟩).isSome = true := fun j hj => by
    rw [hW1, World.cell?_alloc_at (w := w.drew) ROW _ w.heap.size j rfl, Array.getElem?_eq_getElem (by omega)]; rfl
  have hNf : ∀ j, W1.frozen? ⟨w.heap.size, j, none⟩ = false := fun j => by rw [hW1]; exact World.frozen?_alloc_at (w := w.drew) ROW _ w.heap.size j rfl
  have hOb : ∀ j v, w.cell? ⟨b, j, none⟩ = some v → W1.cell? ⟨b, j, none⟩ = some v := fun j v h => by rw [hW1, World.cell?_alloc_past (w := w.drew) _ b j hbw]; exact h
  have hOv : ∀ j v, w.cell? ⟨vb, j, none⟩ = some v → W1.cell? ⟨vb, j, none⟩ = some v := fun j v h => by rw [hW1, World.cell?_alloc_past (w := w.drew) _ vb j hvw]; exact h
  have emk : i * k + m * k ≤ (n + m) * k := by rw [← Nat.add_mul]; exact Nat.mul_le_mul_right k (by omega)
  have edk : (i + m) * k + (n - i) * k = (n + m) * k := by rw [← Nat.add_mul]; congr 1; omega
  have hcpA : ∀ (W : World), (∀ x, W.cell? x = W1.cell? x) → (∀ x, W.frozen? x = W1.frozen? x) → ∀ ty dc, (Builtin.copy_ #[(ρ.t 24), (ρ.t 24)] ty #[.slice (some ⟨w.heap.size, i * k, none⟩) (n + m - i) dc, .slice (some ⟨vb, voff, none⟩) m vc]).run P W = .ok (goInt (Nat.min m (n + m - i))) (W.setCells w.heap.size (i * k) vs) := fun W hWc hWf ty dc =>
    run_copyK W _ _ ty (ρ.t 9) w.heap.size (i * k) (n + m - i) dc ⟨vb, voff, none⟩ m vc vs L.t24 hsz (by rw [hvl]; congr 1; simp only [Nat.min_def]; split <;> omega)
      (fun j v hj => by rw [Addr.add_lit, hWc]; exact hOv _ v (hvs j v hj))
      (fun j hj => by rw [hWc]; exact hN _ (by omega)) (fun j hj => by rw [hWf]; exact hNf _) h1v
  have hGn : n + m ≤ G := by rw [hG]; exact grownCap_ge w _ _ _
  have hG63 : G ≤ 9223372036854775807 := by
    have := grownCap_le_maxLen w (n + m) c (ρ.t 9) (by unfold Go.maxLen; omega)
    rw [← hG] at this
    unfold Go.maxLen at this
    omega
  have hGi : ¬ (G = i) := by omega
  have hGim : ¬ (G = i + m) := by omega
  have hci : ¬ (c = i) := by omega
  have hbN : b ≠ w.heap.size := by omega
  have hdl : (cs.drop (i * k)).length = (n - i) * k := by rw [List.length_drop, hcl, Nat.sub_mul]
  have hcpB : ∀ (W : World), (∀ x, W.cell? x = (W1.setCells w.heap.size (i * k) vs).cell? x) → (∀ x, W.frozen? x = (W1.setCells w.heap.size (i * k) vs).frozen? x) → ∀ ty dc sc, (Builtin.copy_ #[(ρ.t 24), (ρ.t 24)] ty #[.slice (some ⟨w.heap.size, (i + m) * k, none⟩) (n + m - (i + m)) dc, .slice (some ⟨b, off + i * k, none⟩) (n - i) sc]).run P W = .ok (goInt (Nat.min (n - i) (n + m - (i + m)))) (W.setCells w.heap.size ((i + m) * k) (cs.drop (i * k))) := fun W hWc hWf ty dc sc =>
    run_copyK W _ _ ty (ρ.t 9) w.heap.size ((i + m) * k) (n + m - (i + m)) dc ⟨b, off + i * k, none⟩ (n - i) sc (cs.drop (i * k)) L.t24 hsz (by rw [hdl]; congr 1; simp only [Nat.min_def]; split <;> omega)
      (fun j v hj => by
        rw [Addr.add_lit, hWc, World.cell?_setCells_out _ _ _ _ _ (fun h _ => absurd h hbN), Nat.add_assoc]
        exact hOb _ v (hcs (i * k + j) v (by rwa [List.getElem?_drop] at hj)))
      (fun j hj => by rw [hWc]; exact isSome_setCells _ _ _ _ (fun t ht => hN _ (by omega)) _ (hN _ (by omega)))
      (fun j hj => by rw [hWf, World.frozen?_setCells]; exact hNf _) (fun v hv => h1c v (List.mem_of_mem_drop hv))
  subst hW1
  have hE1 : ∀ x, ((w.alloc (.cells ROW (ρ.t 9))).drew).cell? x = (w.drew.alloc (.cells ROW (ρ.t 9))).cell? x := fun x => rfl
  have hE2 : ∀ x, ((w.alloc (.cells ROW (ρ.t 9))).drew).frozen? x = (w.drew.alloc (.cells ROW (ρ.t 9))).frozen? x := fun x => rfl
  have hF1 : ∀ x, (((w.alloc (.cells ROW (ρ.t 9))).drew.setCells w.heap.size (i * k) vs).drew).cell? x = ((w.drew.alloc (.cells ROW (ρ.t 9))).setCells w.heap.size (i * k) vs).cell? x := fun x => rfl
  have hF2 : ∀ x, (((w.alloc (.cells ROW (ρ.t 9))).drew.setCells w.heap.size (i * k) vs).drew).frozen? x = ((w.drew.alloc (.cells ROW (ρ.t 9))).setCells w.heap.size (i * k) vs).frozen? x := fun x => rfl
  have hw1 : IntKind.i64.wrap ((i : Int) + (m : Int)) = (i : Int) + (m : Int) := by rw [IntKind.wrap_i64]; omega
  have hw2 : IntKind.i64.wrap ((n : Int) + (m : Int)) = (n : Int) + (m : Int) := by rw [IntKind.wrap_i64]; omega
  have hb1 : (0 : Int) ≤ (i : Int) + (m : Int) := by omega
  have hin : i ≤ n := by omega
  have htn : ((i : Int) + (m : Int)).toNat = i + m := by omega
  have hb3 : (i : Int) ≤ (n : Int) := by omega
  clear hkk hik hold hROW hG hRl emk edk hki
  refine calls_named L.f22 rfl ?_
  simp only [Body2.n22_ntmps ρ, List.size_toArray, List.length_cons, List.length_nil, Nat.reduceAdd, Nat.reduceSub, Array.replicate_succ, Array.replicate_zero, List.push_toArray, List.append_toArray, List.nil_append, List.cons_append]
  go_wp2_with (first
    | (at_builtin; refine Lib.wpList_append_run _ rfl _ _ _ _ rfl _ _ rfl rfl _ _ (hrz _) ?_)
    | (at_builtin; refine wpList_copy_runI _ rfl _ _ (ρ.t 24) (ρ.t 24) rfl _ _ rfl rfl (hcpA _ hE1 hE2 _ _) ?_)
    | (at_builtin; refine wpList_copy_runI _ rfl _ _ (ρ.t 24) (ρ.t 24) rfl _ _ rfl rfl (hcpB _ (fun _ => rfl) (fun _ => rfl) _ _ _) ?_))
  go_region_law_o (refine step_copy_runI rfl _ _ (ρ.t 24) (ρ.t 24) rfl (.slice (some ⟨w.heap.size, (i + m) * k, none⟩) (n + m - (i + m)) (G - (i + m))) (.slice (some ⟨b, off + i * k, none⟩) (n - i) (c - i)) (by simp [Act.eval, Act.put]) (by simp [Act.eval, Act.put]) (hcpB _ hF1 hF2 (ρ.t 3) (G - (i + m)) (c - i)) ?_)
  go_wp2
  go_ret
  exact ⟨rfl, rfl⟩

set_option maxHeartbeats 4000000 in
set_option maxRecDepth 100000 in
/-- Ahead of the end, there is room: in place. -/
theorem ins_shift (L : Lay P ρ nm k by_ z) (b off n c i vb voff m vc : Nat) (cs vs : List Value) (w : World) (hi : i < n) (hm : 0 < m) (hroom : n + m ≤ c) (hc63 : c ≤ 9223372036854775807)
    (hcl : cs.length = n * k) (hvl : vs.length = m * k)
    (hcs : ∀ j v, cs[j]? = some v → w.cell? ⟨b, off + j, none⟩ = some v) (hsp : ∀ j, j < (n + m) * k → (w.cell? ⟨b, off + j, none⟩).isSome = true) (hpl : PlB w b) (hpv : PlB w vb)
    (hvs : ∀ j v, vs[j]? = some v → w.cell? ⟨vb, voff + j, none⟩ = some v) (h1c : ∀ v ∈ cs, v.oneCell' = true) (h1v : ∀ v ∈ vs, v.oneCell' = true)
    (hno : vb = b → ∀ x y, x < m * k → y < (n + m) * k → voff + x ≠ off + y) :
    Calls P (ρ.f 22) #[.slice (some ⟨b, off, none⟩) n c, .int .i64 i, .slice (some ⟨vb, voff, none⟩) m vc] w fun e w' =>
      e = .returned (.slice (some ⟨b, off, none⟩) (n + m) c) ∧ w' = (w.drew.setCells b (off + (i + m) * k) (cs.drop (i * k))).setCells b (off + i * k) vs := by
  have t0 := L.t0; have a0 := L.a0; have z0 := L.z0; have v0 := L.v0; have t3 := L.t3; have a3 := L.a3; have z3 := L.z3; have v3 := L.v3; have t4 := L.t4; have a4 := L.a4; have z4 := L.z4; have v4 := L.v4; have z9 := L.z9; have t24 := L.t24; have a24 := L.a24; have z24 := L.z24; have v24 := L.v24
  have u0 := run_underlying L.t0; have u3 := run_underlying L.t3; have u4 := run_underlying L.t4; have u24 := run_underlying L.t24
  have mixed := L.mixed
  have k0 := L.k0
  obtain ⟨i0, hi0, hz0, hzs, hzb⟩ := L.i9
  have hz1 : ¬ ((m : Int) = 0) := by omega
  have hz2 : ¬ ((i : Int) = (n : Int)) := by omega
  have hsz : (P.info? (ρ.t 9)).map (·.size) = some k := by rw [hi0]; simp [hzs]
  have enk : n * k + m * k = (n + m) * k := by rw [← Nat.add_mul]
  have eik : i * k + k ≤ n * k := by
    have := Nat.mul_le_mul_right k (show i + 1 ≤ n by omega)
    rw [Nat.add_mul] at this; omega
  have emk : k ≤ m * k := by
    have := Nat.mul_le_mul_right k (show 1 ≤ m by omega)
    omega
  have eimk : (i + m) * k = i * k + m * k := by rw [Nat.add_mul]
  have hfz : ∀ j, w.frozen? ⟨b, off + j, none⟩ = false := fun j => hpl.frz _
  have hov : ∀ cb, (callFunc (ρ.f 29) #[.slice (some ⟨vb, voff, none⟩) m vc, .slice (some ⟨b, off + (i + m) * k, none⟩) (n + m - (i + m)) cb]).run P w = .ok (.value (.bool false)) w := fun cb => by
    refine L.f29 _ _ _ _ (run_overlaps_own w (ρ.t 24) (ρ.t 4) (ρ.t 9) L.t24 k L.z9 ⟨vb, voff, none⟩ ⟨b, off + (i + m) * k, none⟩ m vc (n + m - (i + m)) cb hpv hpl ?_ ?_ ?_ ⟨rfl, rfl⟩)
    · obtain ⟨v, hv⟩ : ∃ v, vs[0]? = some v := ⟨_, List.getElem?_eq_getElem (by omega)⟩
      exact ⟨v, hvs 0 v hv⟩
    · exact Option.isSome_iff_exists.1 (hsp ((i + m) * k) (by rw [eimk]; omega))
    · intro he hh
      simp only at he hh
      have e3 : (i + m) * k + (n + m - (i + m)) * k = (n + m) * k := by rw [← Nat.add_mul]; congr 1; omega
      obtain ⟨h1, h2⟩ := hh
      by_cases hle : voff ≤ off + (i + m) * k
      · exact hno he (off + (i + m) * k - voff) ((i + m) * k) (by omega) (by omega) (by omega)
      · exact hno he 0 (voff - off) (by omega) (by omega) (by omega)
  have hdl : (cs.drop (i * k)).length = (n - i) * k := by rw [List.length_drop, hcl, Nat.sub_mul]
  have edk : (i + m) * k + (n - i) * k = (n + m) * k := by rw [← Nat.add_mul]; congr 1; omega
  have hw1 : IntKind.i64.wrap ((i : Int) + (m : Int)) = (i : Int) + (m : Int) := by rw [IntKind.wrap_i64]; omega
  have hw2 : IntKind.i64.wrap ((n : Int) + (m : Int)) = (n : Int) + (m : Int) := by rw [IntKind.wrap_i64]; omega
  have hb1 : (0 : Int) ≤ (i : Int) + (m : Int) := by omega
  have hin : i ≤ n := by omega
  have htn : ((i : Int) + (m : Int)).toNat = i + m := by omega
  have hb2 : ¬ (c = i + m) := by omega
  have hb3 : (i : Int) ≤ (n : Int) + (m : Int) := by omega
  have hb4 : ¬ (c = i) := by omega
  have hcp1 : ∀ ty dc sc, (Builtin.copy_ #[(ρ.t 24), (ρ.t 24)] ty #[.slice (some ⟨b, off + (i + m) * k, none⟩) (n + m - (i + m)) dc, .slice (some ⟨b, off + i * k, none⟩) (n + m - i) sc]).run P w.drew = .ok (goInt (Nat.min (n + m - i) (n + m - (i + m)))) (w.drew.setCells b (off + (i + m) * k) (cs.drop (i * k))) := fun ty dc sc =>
    run_copyK w.drew _ _ ty (ρ.t 9) b (off + (i + m) * k) (n + m - (i + m)) dc ⟨b, off + i * k, none⟩ (n + m - i) sc (cs.drop (i * k)) L.t24 hsz (by rw [hdl]; congr 1; simp only [Nat.min_def]; split <;> omega)
      (fun j v hj => by rw [Addr.add_lit, Nat.add_assoc]; exact hcs (i * k + j) v (by rwa [List.getElem?_drop] at hj))
      (fun j hj => by rw [Nat.add_assoc]; exact hsp _ (by omega)) (fun j hj => by rw [Nat.add_assoc]; exact hfz _) (fun v hv => h1c v (List.mem_of_mem_drop hv))
  obtain ⟨W1, hW1⟩ : ∃ W1, W1 = w.drew.setCells b (off + (i + m) * k) (cs.drop (i * k)) := ⟨_, rfl⟩
  have hsp1 : ∀ q, q < (n + m) * k → (W1.cell? ⟨b, off + q, none⟩).isSome = true := fun q hq => by
    rw [hW1]
    exact isSome_setCells b _ _ _ (fun j hj => by rw [Nat.add_assoc]; exact hsp _ (by omega)) _ (hsp q hq)
  have hcp2 : ∀ (W : World), (∀ x, W.cell? x = W1.cell? x) → (∀ x, W.frozen? x = W1.frozen? x) → ∀ ty dc, (Builtin.copy_ #[(ρ.t 24), (ρ.t 24)] ty #[.slice (some ⟨b, off + i * k, none⟩) (n + m - i) dc, .slice (some ⟨vb, voff, none⟩) m vc]).run P W = .ok (goInt (Nat.min m (n + m - i))) (W.setCells b (off + i * k) vs) := fun W hWc hWf ty dc =>
    run_copyK W _ _ ty (ρ.t 9) b (off + i * k) (n + m - i) dc ⟨vb, voff, none⟩ m vc vs L.t24 hsz (by rw [hvl]; congr 1; simp only [Nat.min_def]; split <;> omega)
      (fun j v hj => by
        rw [Addr.add_lit, hWc, hW1, World.cell?_setCells_out b _ _ _ _ (fun h _ => by
          simp only at h ⊢
          have hjl := (List.getElem?_eq_some_iff.1 hj).1
          have h7 : ∀ y, y < (n + m) * k → voff + j ≠ off + y := fun y hy => hno h j y (by omega) hy
          by_cases h8 : voff + j < off + (i + m) * k
          · exact .inl h8
          · right
            rw [hdl]
            have := h7 (voff + j - off)
            omega)]
        exact hvs j v hj)
      (fun j hj => by rw [hWc, Nat.add_assoc]; exact hsp1 _ (by omega)) (fun j hj => by rw [hWf, hW1, World.frozen?_setCells, Nat.add_assoc]; exact hfz _) h1v
  rw [← hW1] at hcp1
  clear enk eik emk eimk edk
  refine calls_named L.f22 rfl ?_
  simp only [Body2.n22_ntmps ρ, List.size_toArray, List.length_cons, List.length_nil, Nat.reduceAdd, Nat.reduceSub, Array.replicate_succ, Array.replicate_zero, List.push_toArray, List.append_toArray, List.nil_append, List.cons_append]
  go_wp2_with (simp only [hov])
  go_region_law_o (refine step_copy_runI rfl _ _ (ρ.t 24) (ρ.t 24) rfl _ _ (by simp [Act.eval, Act.put]) (by simp [Act.eval, Act.put]) (hcp1 _ _ _) ?_)
  go_wp2_with (at_builtin; refine wpList_copy_runI _ rfl _ _ (ρ.t 24) (ρ.t 24) rfl _ _ rfl rfl (hcp2 _ (fun _ => rfl) (fun _ => rfl) _ _) ?_)
  go_ret
  first | exact ⟨rfl, rfl⟩ | exact ⟨rfl, by rw [hW1]⟩

/-- A row whose cells are known. -/
theorem rv_row {w : World} {S : CS} {A : AlSem} {es : List (List V)} {uss : List (List Value)} {F : CS} {b o cap : Nat} (hl : ∀ e ∈ es, e.length = k) (hcap : es.length ≤ cap ∧ cap ≤ 9223372036854775807)
    (hcells : ∀ j v, uss.flatten[j]? = some v → w.cell? ⟨b, o + j, none⟩ = some v) (hown : ∀ x, x < cap * k → F b (o + x) ∧ (w.cell? ⟨b, o + x, none⟩).isSome = true ∧ PlB w b)
    (hr : RLL w S A es uss (F.minus (CS.row b o (cap * k)))) : RV w S A (.sl true k es) (.slice (some ⟨b, o, none⟩) es.length cap) F := by
  refine ⟨_, cap, rfl, hcap, .inr (.inr ⟨b, o, uss, rfl, hl, fun i j hi hj => ?_, fun _ => hown, (by intro h; cases h), hr⟩)⟩
  have hul := rll_lens hr hl
  have hlen := RLL.length hr
  have hx : i * k + j < uss.flatten.length := by
    rw [flat_len _ hul, hlen]
    have := Nat.mul_le_mul_right k (show i + 1 ≤ es.length from hi)
    rw [Nat.add_mul] at this; omega
  rw [← flat_get uss hul i j hj]
  rw [List.getElem?_eq_getElem hx]
  exact hcells _ _ (List.getElem?_eq_getElem hx)
theorem rll_mono {w : World} {S : CS} {A : AlSem} {es : List (List V)} {uss : List (List Value)} {F F' : CS} (h : RLL w S A es uss F) (hF : F.le F') : RLL w S A es uss F' :=
  RLL.frame (CS.le.refl _) (fun _ _ h => h) (Agree.refl _ _) _ _ _ _ hF (Agree.refl _ _) h
theorem flat_take {α : Type} : ∀ (l : List (List α)) (i : Nat), (∀ u ∈ l, u.length = k) → i ≤ l.length → l.flatten.take (i * k) = (l.take i).flatten ∧ l.flatten.drop (i * k) = (l.drop i).flatten
  | l, 0, _, _ => by simp
  | [], i + 1, _, h => by simp at h
  | u :: l, i + 1, hl, h => by
    have h1 := hl u (by simp)
    obtain ⟨e1, e2⟩ := flat_take l i (fun u hu => hl u (by simp [hu])) (by simpa using h)
    have hk : (i + 1) * k = u.length + i * k := by rw [Nat.add_mul, h1]; omega
    constructor
    · rw [List.flatten_cons, hk, List.take_length_add_append, e1]; simp
    · rw [List.flatten_cons, hk, List.drop_length_add_append, e2]; simp

theorem ins_ok (L : Lay P ρ nm k by_ z) (es es2 : List (List V)) (i : Nat) (hi : i ≤ es.length) (hm : 0 < es2.length) (hlf : esLeaf es = true) (hlf2 : esLeaf es2 = true) (hmx : es.length + es2.length ≤ 9223372036854775807) (hby : (es.length + es2.length) * by_ ≤ 140737488355328) :
    Ok P (ρ.f 22) [.sl true k es, .lit (.int .i64 i), .sl true k es2] fun v outs => v = .sl true k (es.take i ++ es2 ++ es.drop i) ∧ Outs [] [] outs := by
  intro w S O vals htab hOS hOl hSl hrl
  obtain ⟨u, ur, F1, F2, rfl, l1, l2, d12, hu, hr2⟩ := hrl
  obtain ⟨ui, ur', F3, F4, rfl, l3, l4, d34, hui, hr3⟩ := hr2
  obtain ⟨x, ur'', F5, F6, rfl, l5, l6, d56, hx, hr4⟩ := hr3
  simp only [RV] at hui
  simp only [RL] at hr4
  subst hui; subst hr4
  have hF5 : ∀ b y, F5 b y → O b y := fun b y h => l2 _ _ (l4 _ _ (l5 _ _ h))
  have d15 : F1.dj F5 := fun b y h1 h2 => d12 _ _ h1 (l4 _ _ (l5 _ _ h2))
  have k0 := L.k0
  have hlf' : ∀ e ∈ es, e.all (·.leafOk) = true := by simpa [esLeaf] using hlf
  have hlf2' : ∀ e ∈ es2, e.all (·.leafOk) = true := by simpa [esLeaf] using hlf2
  -- what is left behind, once the result lies as it should
  suffices hh : Calls P (ρ.f 22) #[u, .int .i64 (i : Int), x] w fun e w' => ∃ v F', e = .returned v ∧ Pres (F1.un F5) w w' ∧ RV w' S A0 (.sl true k (es.take i ++ es2 ++ es.drop i)) v F' ∧ F'.dj S ∧ ∀ b y, F' b y → (O b y ∨ fresh w b y) ∧ b < w'.heap.size by
    refine Calls.mono (show Calls P (ρ.f 22) _ w _ from hh) ?_
    rintro e w' ⟨v, F', rfl, hp, hv, hdS, hF'⟩
    have hpO : Pres O w w' := hp.mono (fun b y _ h => h.elim (l1 b y) (hF5 b y))
    refine ⟨v, .sl true k (es.take i ++ es2 ++ es.drop i), [.hole, .lit (.int .i64 i), .hole], S, F', CS.none, rfl, ⟨rfl, ?_⟩, CS.le.refl _, (CS.none_dj _).symm, hdS, CS.none_dj _, hv, ?_, hpO, ?_, ?_⟩
    · intro j q v h1 h2; simp at h1
    · exact ⟨_, _, CS.none, CS.none, rfl, CS.le.refl _, CS.le.refl _, CS.none_dj _, trivial, _, _, CS.none, CS.none, rfl, CS.le.refl _, CS.le.refl _, CS.none_dj _, rfl, _, _, CS.none, CS.none, rfl, CS.le.refl _, CS.le.refl _, CS.none_dj _, trivial, rfl⟩
    · rintro b y (h | h)
      · exact hF' b y h
      · exact h.elim
    · intro b y h
      exact ⟨.inl h, Nat.lt_of_lt_of_le (hSl b y h) hpO.size⟩
  have hF1l : ∀ b y, F1 b y → b < w.heap.size := fun b y h => hOl b y (l1 _ _ h)
  have hF5l : ∀ b y, F5 b y → b < w.heap.size := fun b y h => hOl b y (hF5 _ _ h)
  have hF1S : F1.dj S := fun b y h1 h2 => hOS b y (l1 _ _ h1) h2
  have hF5S : F5.dj S := fun b y h1 h2 => hOS b y (hF5 _ _ h1) h2
  obtain ⟨ax, capx, rfl, ⟨hcapx, hcmx⟩, hxs⟩ := hx
  rcases hxs with ⟨_, ho⟩ | ⟨_, he, _⟩ | ⟨vb, vo, uss2, rfl, hl2, hc2, hO2, _, hrr2⟩
  · cases ho
  · subst he; simp at hm
  simp only [if_true] at hrr2
  have hlen2 := RLL.length hrr2
  have hul2 := rll_lens hrr2 hl2
  have hnews := cells_flat hul2 hlen2 hc2
  have hnl : uss2.flatten.length = es2.length * k := by rw [flat_len _ hul2, hlen2]
  have hones2 := rll_ones hrr2 hlf2'
  have hvs : ∀ j v, uss2.flatten[j]? = some v → w.cell? ⟨vb, vo + j, none⟩ = some v := fun j v h => by have := hnews j v h; rwa [addr_add] at this
  have hcx0 : 0 < capx * k := Nat.mul_pos (by omega) k0
  obtain ⟨hv1, hv2, hv3⟩ := hO2 rfl 0 hcx0
  obtain ⟨i0, hi0, hz0, hs0, hb0⟩ := L.i9
  by_cases hin : i = es.length
  · -- at the end
    subst hin
    rw [List.take_length, List.drop_length, List.append_nil]
    obtain ⟨v', w', F', hrun, hp, hv, hF'⟩ := append_spec (ty := ρ.t 24) L.t24 hi0 hz0 hs0 L.zk k0 (es := es) (es2 := es2) hu (.inr ⟨vb, vo, capx, rfl, hc2⟩) (rll_mono hrr2 (CS.minus_le _ _)) hl2 hlf2' d15 hF1S hSl hF1l hF5l hmx (by rw [hb0]; exact hby)
    obtain ⟨au, capu, rfl, ⟨hcapu, hcmu⟩, hus⟩ := hu
    refine (ins_end L au es.length capu vb vo es2.length capx w hm hcapu hcmu (fun e => ?_) v' w' hrun).mono ?_
    · rcases hus with ⟨_, ho⟩ | ⟨_, he, _⟩ | ⟨_, _, _, he, _⟩
      · cases ho
      · rw [he]; rfl
      · rw [he] at e; cases e
    · rintro e w2 ⟨rfl, rfl⟩
      refine ⟨v', F', rfl, hp.mono (fun b y _ h => .inl h), hv, fun b y h1 h2 => ?_, fun b y h => ?_⟩
      · rcases (hF' b y h1).1 with h | h | h
        · exact hF1S _ _ h h2
        · exact hF5S _ _ h h2
        · exact absurd (hSl _ _ h2) (Nat.not_lt.2 h)
      · obtain ⟨h1, h2⟩ := hF' b y h
        exact ⟨h1.elim (fun h => .inl (l1 _ _ h)) (fun h => h.elim (fun h => .inl (hF5 _ _ h)) .inr), h2⟩
  · have hlt : i < es.length := by omega
    obtain ⟨au, c, rfl, ⟨hcapu, hcmu⟩, hus⟩ := hu
    rcases hus with ⟨_, ho⟩ | ⟨_, he, _⟩ | ⟨b, o, uss, rfl, hl, hc, hO, _, hrr⟩
    · cases ho
    · subst he; simp at hlt
    simp only [if_true] at hrr
    have hlen := RLL.length hrr
    have hul := rll_lens hrr hl
    have holds := cells_flat hul hlen hc
    have hnlo : uss.flatten.length = es.length * k := by rw [flat_len _ hul, hlen]
    have hones := rll_ones hrr hlf'
    have hcs : ∀ j v, uss.flatten[j]? = some v → w.cell? ⟨b, o + j, none⟩ = some v := fun j v h => by have := holds j v h; rwa [addr_add] at this
    have hc0 : 0 < c * k := Nat.mul_pos (by omega) k0
    obtain ⟨hb1, hb2, hb3⟩ := hO rfl 0 hc0
    have hbl := hF1l _ _ hb1
    have hvl := hF5l _ _ hv1
    obtain ⟨ft, fd⟩ := flat_take (k := k) uss i hul (by omega)
    have hnew : (uss.take i ++ uss2 ++ uss.drop i).flatten = uss.flatten.take (i * k) ++ uss2.flatten ++ uss.flatten.drop (i * k) := by rw [ft, fd]; simp
    have hnlen : (es.take i ++ es2 ++ es.drop i).length = es.length + es2.length := by simp; omega
    have hne : ∀ e ∈ es.take i ++ es2 ++ es.drop i, e.length = k := fun e he => by
      simp only [List.mem_append] at he
      rcases he with (he | he) | he
      · exact hl e (List.mem_of_mem_take he)
      · exact hl2 e he
      · exact hl e (List.mem_of_mem_drop he)
    have hik : i * k ≤ es.length * k := Nat.mul_le_mul_right k (by omega)
    have hck : es.length * k ≤ c * k := Nat.mul_le_mul_right k hcapu
    have hxk : es2.length * k ≤ capx * k := Nat.mul_le_mul_right k hcapx
    have e2 : es.length * k + es2.length * k = (es.length + es2.length) * k := by rw [← Nat.add_mul]
    have e3 : (i + es2.length) * k = i * k + es2.length * k := by rw [Nat.add_mul]
    -- the three parts, wherever the memory keeps what they own
    have hparts : ∀ w' : World, Agree w w' S → Agree w w' (F1.minus (CS.row b o (c * k))) → Agree w w' (F5.minus (CS.row vb vo (capx * k))) → RLL w' S A0 (es.take i ++ es2 ++ es.drop i) (uss.take i ++ uss2 ++ uss.drop i) ((F1.minus (CS.row b o (c * k))).un (F5.minus (CS.row vb vo (capx * k)))) := by
      intro w' hS' h1 h2
      have g1 := RLL.frame (CS.le.refl _) (fun _ _ h => h) hS' _ _ _ _ (CS.le.refl _) h1 hrr
      have g2 := RLL.frame (CS.le.refl _) (fun _ _ h => h) hS' _ _ _ _ (CS.le.refl _) h2 hrr2
      have hsp : es.take i ++ es.drop i = es := List.take_append_drop i es
      rw [← hsp] at g1
      obtain ⟨ua, ub, Fa, Fb, hu, la, lb, dab, ga, gb⟩ := RLL.split g1
      have hla : ua.length = i := by rw [RLL.length ga]; simp; omega
      obtain ⟨rfl, rfl⟩ : ua = uss.take i ∧ ub = uss.drop i := by
        rw [hu]; constructor
        · rw [← hla, List.take_left']; rfl
        · rw [← hla, List.drop_left']; rfl
      have dF : (F1.minus (CS.row b o (c * k))).dj (F5.minus (CS.row vb vo (capx * k))) := d15.mono (CS.minus_le _ _) (CS.minus_le _ _)
      refine RLL.append (Fa := Fa.un (F5.minus (CS.row vb vo (capx * k)))) (Fb := Fb) (CS.un_le (fun b y h => .inl (la _ _ h)) (fun b y h => .inr h)) (fun b y h => .inl (lb _ _ h)) ?_ (RLL.append (Fa := Fa) (CS.le_un_l _ _) (CS.le_un_r _ _) (dF.mono la (CS.le.refl _)) ga g2) gb
      intro b y h1 h2
      rcases h1 with h1 | h1
      · exact dab _ _ h1 h2
      · exact dF _ _ (lb _ _ h2) h1
    by_cases hroom : es.length + es2.length ≤ c
    · -- in place
      have hsz : (es.length + es2.length) * k ≤ c * k := Nat.mul_le_mul_right k hroom
      refine (ins_shift L b o es.length c i vb vo es2.length capx uss.flatten uss2.flatten w hlt hm hroom hcmu hnlo hnl hcs (fun j hj => (hO rfl j (by omega)).2.1) hb3 hv3 hvs hones hones2 ?_).mono ?_
      · rintro rfl x y hx hy he
        have h1 := (hO2 rfl x (by omega)).1
        have h2 := (hO rfl y (by omega)).1
        rw [he] at h1
        exact d15 _ _ h2 h1
      · rintro e w' ⟨rfl, rfl⟩
        have hdl : (uss.flatten.drop (i * k)).length = es.length * k - i * k := by rw [List.length_drop, hnlo]
        have p1 := pres_setCells b (uss.flatten.drop (i * k)) (o + (i + es2.length) * k) w.drew
        have p2 := pres_setCells b uss2.flatten (o + i * k) (w.drew.setCells b (o + (i + es2.length) * k) (uss.flatten.drop (i * k)))
        have hrow : Pres (CS.row b o (c * k)) w ((w.drew.setCells b (o + (i + es2.length) * k) (uss.flatten.drop (i * k))).setCells b (o + i * k) uss2.flatten) := by
          have p1' : Pres (CS.row b o (c * k)) w (w.drew.setCells b (o + (i + es2.length) * k) (uss.flatten.drop (i * k))) :=
            ⟨p1.os, p1.output, p1.size, (p1.mono (O' := CS.row b o (c * k)) (fun b' y _ h => by obtain ⟨rfl, h1, h2⟩ := h; exact ⟨rfl, by omega, by omega⟩)).obj⟩
          exact p1'.trans p2 (fun b' y _ h => by obtain ⟨rfl, h1, h2⟩ := h; exact ⟨rfl, by omega, by omega⟩)
        generalize hww : (w.drew.setCells b (o + (i + es2.length) * k) (uss.flatten.drop (i * k))).setCells b (o + i * k) uss2.flatten = w' at hrow ⊢
        have hrF : ∀ y, (CS.row b o (c * k)) b y → F1 b y := fun y ⟨_, h1, h2⟩ => by
          have := (hO rfl (y - o) (by omega)).1
          rwa [show o + (y - o) = y by omega] at this
        have hpF : Pres (F1.un F5) w w' := hrow.mono (fun b' y _ h => by obtain ⟨rfl, h1, h2⟩ := h; exact .inl (hrF y ⟨rfl, h1, h2⟩))
        have hsome : ∀ j, j < c * k → (w'.cell? ⟨b, o + j, none⟩).isSome = true := fun j hj => by
          rw [← hww]
          refine isSome_setCells b _ _ _ (fun t ht => ?_) _ (isSome_setCells b _ _ w.drew (fun t ht => ?_) _ (hO rfl j hj).2.1)
          · rw [Nat.add_assoc]
            exact isSome_setCells b _ _ w.drew (fun t ht => by rw [Nat.add_assoc]; exact (hO rfl _ (by omega)).2.1) _ (hO rfl _ (by omega)).2.1
          · rw [Nat.add_assoc]; exact (hO rfl _ (by omega)).2.1
        refine ⟨_, F1.un F5, rfl, hpF, ?_, fun b' y h1 h2 => h1.elim (fun h => hF1S _ _ h h2) (fun h => hF5S _ _ h h2), fun b' y h => ⟨.inl (h.elim (l1 _ _) (hF5 _ _)), Nat.lt_of_lt_of_le (h.elim (hF1l _ _) (hF5l _ _)) hrow.size⟩⟩
        rw [← hnlen]
        refine rv_row (uss := uss.take i ++ uss2 ++ uss.drop i) hne (by rw [hnlen]; exact ⟨hroom, hcmu⟩) (fun j v hj => ?_) (fun y hy => ⟨.inl (hO rfl y hy).1, hsome y hy, ?_⟩) ?_
        · rw [hnew] at hj
          rw [← hww]
          have hcell1 : ∀ t, t < (uss.flatten.drop (i * k)).length → (w.drew.cell? ⟨b, o + (i + es2.length) * k + t, none⟩).isSome = true := fun t ht => by rw [Nat.add_assoc]; exact (hO rfl _ (by omega)).2.1
          have hcell2 : ∀ t, t < uss2.flatten.length → ((w.drew.setCells b (o + (i + es2.length) * k) (uss.flatten.drop (i * k))).cell? ⟨b, o + i * k + t, none⟩).isSome = true := fun t ht => by
            refine isSome_setCells b _ _ w.drew hcell1 _ ?_
            rw [Nat.add_assoc]; exact (hO rfl _ (by omega)).2.1
          have htl : (uss.flatten.take (i * k)).length = i * k := by rw [List.length_take, hnlo]; omega
          by_cases j1 : j < i * k
          · rw [List.append_assoc, List.getElem?_append_left (by omega), List.getElem?_take, if_pos j1] at hj
            rw [World.cell?_setCells_out b _ _ _ _ (fun _ _ => .inl (by show o + j < _; omega)), World.cell?_setCells_out b _ _ _ _ (fun _ _ => .inl (by show o + j < _; omega))]
            exact hcs j v hj
          · by_cases j2 : j < i * k + es2.length * k
            · rw [List.append_assoc, List.getElem?_append_right (by omega), List.getElem?_append_left (by omega), htl] at hj
              have := World.cell?_setCells_in b uss2.flatten (o + i * k) _ hcell2 (j - i * k) (by omega)
              rw [show o + i * k + (j - i * k) = o + j by omega] at this
              rw [this, ← List.getElem?_eq_getElem]; exact hj
            · rw [List.append_assoc, List.getElem?_append_right (by omega), List.getElem?_append_right (by omega), htl] at hj
              have hjl := (List.getElem?_eq_some_iff.1 hj).1
              rw [World.cell?_setCells_out b _ _ _ _ (fun _ _ => .inr (by show _ ≤ o + j; omega))]
              have := World.cell?_setCells_in b (uss.flatten.drop (i * k)) (o + (i + es2.length) * k) w.drew hcell1 (j - i * k - uss2.flatten.length) (by omega)
              rw [show o + (i + es2.length) * k + (j - i * k - uss2.flatten.length) = o + j by omega] at this
              rw [this, ← List.getElem?_eq_getElem]; exact hj
        · rw [← hww]; exact plb_setCells (plb_setCells (w := w.drew) hb3)
        · refine rll_mono (hparts w' ?_ ?_ ?_) (CS.un_le (fun b' y h => ⟨.inl h.1, h.2⟩) (fun b' y h => ⟨.inr h.1, fun hh => ?_⟩))
          · exact hrow.agree hSl (fun b' y h1 h2 => by obtain ⟨rfl, h3, h4⟩ := h2; exact hF1S _ _ (hrF y ⟨rfl, h3, h4⟩) h1)
          · exact hrow.agree (fun b' y h => hF1l _ _ h.1) (fun b' y h1 h2 => h1.2 h2)
          · exact hrow.agree (fun b' y h => hF5l _ _ h.1) (fun b' y h1 h2 => by obtain ⟨rfl, h3, h4⟩ := h2; exact d15 _ _ (hrF y ⟨rfl, h3, h4⟩) h1.1)
          · obtain ⟨rfl, h3, h4⟩ := hh
            exact d15 _ _ (hrF y ⟨rfl, h3, h4⟩) h.1
    · -- a new row
      refine (ins_grow L b o es.length c i vb vo es2.length capx uss.flatten uss2.flatten w hlt hm hcapu (by omega) hby hmx hnlo hnl hcs hvs hones hones2 hbl hvl).mono ?_
      rintro e w' ⟨rfl, rfl⟩
      have hG1 := grownCap_ge w (es.length + es2.length) c (ρ.t 9)
      have hG2 : grownCap w (es.length + es2.length) c (ρ.t 9) ≤ 9223372036854775807 := grownCap_le_maxLen w (es.length + es2.length) c (ρ.t 9) (by simp only [Go.maxLen]; omega)
      generalize grownCap w (es.length + es2.length) c (ρ.t 9) = G at hG1 hG2 ⊢
      have hGk : (es.length + es2.length) * k ≤ G * k := Nat.mul_le_mul_right k hG1
      have hzk := L.zk
      obtain ⟨ROW, hROW⟩ : ∃ ROW : Array Value, ROW = (uss.flatten.take (i * k)).toArray ++ Builtin.zeroCells z.cells (es.length + es2.length - i) ++ Builtin.zeroCells z.cells (G - (es.length + es2.length)) := ⟨_, rfl⟩
      rw [← hROW]
      have htl : (uss.flatten.take (i * k)).length = i * k := by rw [List.length_take, hnlo]; omega
      have hRl : ROW.size = G * k := by
        rw [hROW]
        have e1 : i * k + (es.length + es2.length - i) * k + (G - (es.length + es2.length)) * k = G * k := by rw [← Nat.add_mul, ← Nat.add_mul]; congr 1; omega
        simp only [Array.size_append, List.size_toArray, size_zeroCells, hzk, htl]
        omega
      have hRt : ∀ j, j < i * k → ROW[j]? = uss.flatten[j]? := fun j hj => by
        rw [hROW, Array.append_assoc, Array.getElem?_append_left (by simp only [List.size_toArray, htl]; exact hj), List.getElem?_toArray, List.getElem?_take, if_pos hj]
      have hdl : (uss.flatten.drop (i * k)).length = es.length * k - i * k := by rw [List.length_drop, hnlo]
      have p0 := pres_alloc' w w rfl rfl rfl (.cells ROW (ρ.t 9))
      have p1 := pres_setCells w.heap.size uss2.flatten (i * k) (w.alloc (.cells ROW (ρ.t 9))).drew
      have p2 := pres_setCells w.heap.size (uss.flatten.drop (i * k)) ((i + es2.length) * k) ((w.alloc (.cells ROW (ρ.t 9))).drew.setCells w.heap.size (i * k) uss2.flatten).drew
      have hp : Pres CS.none w ((((w.alloc (.cells ROW (ρ.t 9))).drew.setCells w.heap.size (i * k) uss2.flatten).drew).setCells w.heap.size ((i + es2.length) * k) (uss.flatten.drop (i * k))) := by
        have q1 : Pres CS.none w ((w.alloc (.cells ROW (ρ.t 9))).drew.setCells w.heap.size (i * k) uss2.flatten) :=
          p0.trans (w1 := w.alloc (.cells ROW (ρ.t 9))) ⟨p1.os, p1.output, p1.size, p1.obj⟩ (fun b' y hlt h => by obtain ⟨rfl, _, _⟩ := h; exact absurd hlt (Nat.lt_irrefl _))
        exact q1.trans (w1 := (w.alloc (.cells ROW (ρ.t 9))).drew.setCells w.heap.size (i * k) uss2.flatten) ⟨p2.os, p2.output, p2.size, p2.obj⟩ (fun b' y hlt h => by obtain ⟨rfl, _, _⟩ := h; exact absurd hlt (Nat.lt_irrefl _))
      have hc00 : ∀ y, (w.alloc (.cells ROW (ρ.t 9))).cell? ⟨w.heap.size, y, none⟩ = ROW[y]? := fun y => cell_new w ROW _ y
      have hcell1 : ∀ t, t < uss2.flatten.length → (((w.alloc (.cells ROW (ρ.t 9))).drew).cell? ⟨w.heap.size, i * k + t, none⟩).isSome = true := fun t ht => by
        show ((w.alloc (.cells ROW (ρ.t 9))).cell? ⟨w.heap.size, i * k + t, none⟩).isSome = true
        rw [hc00, Array.getElem?_eq_getElem (by omega)]; rfl
      have hcell2 : ∀ t, t < (uss.flatten.drop (i * k)).length → ((((w.alloc (.cells ROW (ρ.t 9))).drew.setCells w.heap.size (i * k) uss2.flatten).drew).cell? ⟨w.heap.size, (i + es2.length) * k + t, none⟩).isSome = true := fun t ht => by
        show (((w.alloc (.cells ROW (ρ.t 9))).drew.setCells w.heap.size (i * k) uss2.flatten).cell? ⟨w.heap.size, (i + es2.length) * k + t, none⟩).isSome = true
        refine isSome_setCells _ _ _ _ hcell1 _ ?_
        show ((w.alloc (.cells ROW (ρ.t 9))).cell? _).isSome = true
        rw [hc00, Array.getElem?_eq_getElem (by omega)]; rfl
      have hpl : PlB ((((w.alloc (.cells ROW (ρ.t 9))).drew.setCells w.heap.size (i * k) uss2.flatten).drew).setCells w.heap.size ((i + es2.length) * k) (uss.flatten.drop (i * k))) w.heap.size :=
        plb_setCells (w := ((w.alloc (.cells ROW (ρ.t 9))).drew.setCells w.heap.size (i * k) uss2.flatten).drew) (plb_setCells (w := (w.alloc (.cells ROW (ρ.t 9))).drew) (plb_new w ROW (ρ.t 9)))
      have hnewc : ∀ j v, (uss.flatten.take (i * k) ++ uss2.flatten ++ uss.flatten.drop (i * k))[j]? = some v → ((((w.alloc (.cells ROW (ρ.t 9))).drew.setCells w.heap.size (i * k) uss2.flatten).drew).setCells w.heap.size ((i + es2.length) * k) (uss.flatten.drop (i * k))).cell? ⟨w.heap.size, j, none⟩ = some v := by
        intro j v hj
        by_cases j1 : j < i * k
        · rw [List.append_assoc, List.getElem?_append_left (by omega), List.getElem?_take, if_pos j1] at hj
          rw [World.cell?_setCells_out _ _ _ _ _ (fun _ _ => .inl (by show j < _; omega))]
          show ((w.alloc (.cells ROW (ρ.t 9))).drew.setCells w.heap.size (i * k) uss2.flatten).cell? _ = _
          rw [World.cell?_setCells_out _ _ _ _ _ (fun _ _ => .inl (by show j < _; omega))]
          show (w.alloc (.cells ROW (ρ.t 9))).cell? _ = _
          rw [hc00, hRt j j1]; exact hj
        · by_cases j2 : j < i * k + es2.length * k
          · rw [List.append_assoc, List.getElem?_append_right (by omega), List.getElem?_append_left (by omega), htl] at hj
            rw [World.cell?_setCells_out _ _ _ _ _ (fun _ _ => .inl (by show j < _; omega))]
            show ((w.alloc (.cells ROW (ρ.t 9))).drew.setCells w.heap.size (i * k) uss2.flatten).cell? _ = _
            have := World.cell?_setCells_in w.heap.size uss2.flatten (i * k) _ hcell1 (j - i * k) (by omega)
            rw [show i * k + (j - i * k) = j by omega] at this
            rw [this, ← List.getElem?_eq_getElem]; exact hj
          · rw [List.append_assoc, List.getElem?_append_right (by omega), List.getElem?_append_right (by omega), htl] at hj
            have hjl := (List.getElem?_eq_some_iff.1 hj).1
            have := World.cell?_setCells_in w.heap.size (uss.flatten.drop (i * k)) ((i + es2.length) * k) _ hcell2 (j - i * k - uss2.flatten.length) (by omega)
            rw [show (i + es2.length) * k + (j - i * k - uss2.flatten.length) = j by omega] at this
            rw [this, ← List.getElem?_eq_getElem]; exact hj
      have hsomeN : ∀ j, j < G * k → (((((w.alloc (.cells ROW (ρ.t 9))).drew.setCells w.heap.size (i * k) uss2.flatten).drew).setCells w.heap.size ((i + es2.length) * k) (uss.flatten.drop (i * k))).cell? ⟨w.heap.size, j, none⟩).isSome = true := fun j hj => by
        refine isSome_setCells _ _ _ _ hcell2 _ ?_
        show (((w.alloc (.cells ROW (ρ.t 9))).drew.setCells w.heap.size (i * k) uss2.flatten).cell? ⟨w.heap.size, j, none⟩).isSome = true
        refine isSome_setCells _ _ _ _ hcell1 _ ?_
        show ((w.alloc (.cells ROW (ρ.t 9))).cell? _).isSome = true
        rw [hc00, Array.getElem?_eq_getElem (by omega)]; rfl
      generalize (((w.alloc (.cells ROW (ρ.t 9))).drew.setCells w.heap.size (i * k) uss2.flatten).drew).setCells w.heap.size ((i + es2.length) * k) (uss.flatten.drop (i * k)) = w' at hp hpl hnewc hsomeN ⊢
      have hszw : w.heap.size < w'.heap.size := by
        obtain ⟨c1, t1, h1⟩ := hpl
        exact heap_lt h1
      refine ⟨_, (CS.row w.heap.size 0 (G * k)).un (F1.un F5), rfl, hp.mono (fun _ _ _ h => h.elim), ?_, fun b' y h1 h2 => ?_, fun b' y h => ?_⟩
      · rw [← hnlen]
        refine rv_row (uss := uss.take i ++ uss2 ++ uss.drop i) hne (by rw [hnlen]; exact ⟨hG1, hG2⟩) (fun j v hj => ?_) (fun y hy => ⟨.inl ⟨rfl, by omega, by omega⟩, by rw [Nat.zero_add]; exact hsomeN y hy, hpl⟩) ?_
        · rw [hnew] at hj
          rw [Nat.zero_add]; exact hnewc j v hj
        · refine rll_mono (hparts w' ?_ ?_ ?_) (CS.un_le (fun b' y h => ⟨.inr (.inl h.1), fun hh => ?_⟩) (fun b' y h => ⟨.inr (.inr h.1), fun hh => ?_⟩))
          · exact hp.agree hSl (CS.none_dj _).symm
          · exact hp.agree (fun b' y h => hF1l _ _ h.1) (CS.none_dj _).symm
          · exact hp.agree (fun b' y h => hF5l _ _ h.1) (CS.none_dj _).symm
          · obtain ⟨rfl, _, _⟩ := hh; exact absurd (hF1l _ _ h.1) (Nat.lt_irrefl _)
          · obtain ⟨rfl, _, _⟩ := hh; exact absurd (hF5l _ _ h.1) (Nat.lt_irrefl _)
      · rcases h1 with ⟨rfl, _, _⟩ | h1 | h1
        · exact absurd (hSl _ _ h2) (Nat.lt_irrefl _)
        · exact hF1S _ _ h1 h2
        · exact hF5S _ _ h1 h2
      · rcases h with ⟨rfl, _, _⟩ | h | h
        · exact ⟨.inr (Nat.le_refl _), hszw⟩
        · exact ⟨.inl (l1 _ _ h), Nat.lt_of_lt_of_le (hF1l _ _ h) hp.size⟩
        · exact ⟨.inl (hF5 _ _ h), Nat.lt_of_lt_of_le (hF5l _ _ h) hp.size⟩
end Ins
namespace Xs
open Ins
def insS : Shelf.Ren := ⟨fun | 22 => 68 | 29 => 76 | 30 => 77 | n => n, fun | 24 => 42 | 9 => 9 | 0 => 0 | 3 => 3 | 4 => 4 | n => n, fun n => n⟩
theorem lay_insS : Lay Tryd.prog insS Tryd.f68.name 1 16 (.string ByteArray.empty) where
  mixed := by kernel_rfl
  f22 := Tryd.func68.trans (congrArg some (by kernel_rfl))
  t0 := Tryd.underlying0
  a0 := Tryd.isAgg0
  z0 := Tryd.sizeOf0
  v0 := Tryd.zeroValue0
  t3 := Tryd.underlying3
  a3 := Tryd.isAgg3
  z3 := Tryd.sizeOf3
  v3 := Tryd.zeroValue3
  t4 := Tryd.underlying4
  a4 := Tryd.isAgg4
  z4 := Tryd.sizeOf4
  v4 := Tryd.zeroValue4
  z9 := Tryd.sizeOf9
  t24 := Tryd.underlying42
  a24 := Tryd.isAgg42
  z24 := Tryd.sizeOf42
  v24 := Tryd.zeroValue42
  i9 := by
    have h : (Tryd.prog.info? 9).map (fun i => (i.zero, i.size, i.bytes)) = some (some (.string ByteArray.empty), 1, 16) := by kernel_rfl
    show ∃ i, Tryd.prog.info? 9 = some i ∧ _
    cases hi : Tryd.prog.info? 9 with
    | none => rw [hi] at h; cases h
    | some i =>
      rw [hi] at h
      simp only [Option.map_some, Option.some.injEq, Prod.mk.injEq] at h
      exact ⟨i, rfl, h.1, h.2.1, h.2.2⟩
  zk := rfl
  k0 := by decide
  f29 := fun u v w r h => by
    rw [show insS.f 29 = 76 from rfl, run_callFunc_extern Tryd.func76 (by kernel_rfl) (by kernel_rfl) (by kernel_rfl) (e := Extern.SlicesOverlaps.overlaps #[insS.t 24, insS.t 24] #[insS.t 4]) (by kernel_rfl), h]; rfl
def T_slices_Insert___string_string_ : List (List UInt8) × Int × List (List UInt8) → Option (List (List UInt8)) := fun x =>
  if 0 ≤ x.2.1 ∧ x.2.1 ≤ x.1.length ∧ 0 < x.2.2.length ∧ x.1.length + x.2.2.length ≤ 9223372036854775807 ∧ (x.1.length + x.2.2.length) * 16 ≤ 140737488355328 then some (x.1.take x.2.1.toNat ++ x.2.2 ++ x.1.drop x.2.1.toNat) else none
theorem e_T_slices_Insert___string_string_ (a : List (List UInt8)) (i : Int) (b : List (List UInt8)) : T_slices_Insert___string_string_ (a, i, b) = if 0 ≤ i ∧ i ≤ a.length ∧ 0 < b.length ∧ a.length + b.length ≤ 9223372036854775807 ∧ (a.length + b.length) * 16 ≤ 140737488355328 then some (a.take i.toNat ++ b ++ a.drop i.toNat) else none := rfl
def fn_slices_Insert___string_string_ : TFn := ⟨68, [.cell (.sl true .str), .cell (.int .i64), .cell (.sl true .str)], [], [.cell (.sl true .str)], [], T_slices_Insert___string_string_⟩
theorem ins_okS (l : List (List UInt8)) (i : Int) (l2 r : List (List UInt8)) (hr : T_slices_Insert___string_string_ (l, i, l2) = some r) :
    Ok Tryd.prog 68 [.sl true 1 (l.map (ET.enc .str)), .lit (.int .i64 i), .sl true 1 (l2.map (ET.enc .str))] fun v outs => v = .sl true 1 (r.map (ET.enc .str)) ∧ Outs [] [] outs := by
  rw [e_T_slices_Insert___string_string_] at hr
  split at hr <;> try (cases hr; done)
  rename_i hc
  obtain ⟨h0, h1, h2, h3, h4⟩ := hc
  obtain ⟨i, rfl⟩ := Int.eq_ofNat_of_zero_le h0
  simp only [Option.some.injEq, Int.toNat_natCast] at hr
  subst hr
  have := ins_ok lay_insS (l.map (ET.enc .str)) (l2.map (ET.enc .str)) i (by rw [List.length_map]; omega) (by rw [List.length_map]; exact h2) (esLeaf_enc _ _ rfl) (esLeaf_enc _ _ rfl) (by rw [List.length_map, List.length_map]; exact h3) (by rw [List.length_map, List.length_map]; exact h4)
  rw [← List.map_take, ← List.map_drop, ← List.map_append, ← List.map_append] at this
  exact this
theorem ok_slices_Insert___string_string_ : FnOk Tryd.prog fn_slices_Insert___string_string_ := ⟨by kernel_rfl, fun x r hr => ins_okS x.1 x.2.1 x.2.2 r hr⟩
def insG : Shelf.Ren := ⟨fun | 22 => 41 | 29 => 59 | 30 => 60 | n => n, fun | 24 => 27 | 9 => 44 | 0 => 0 | 3 => 3 | 4 => 4 | n => n, fun n => n⟩
theorem lay_insG : Lay Tryd.prog insG Tryd.f41.name 2 40 (.agg #[.string ByteArray.empty, .slice none 0 0]) where
  mixed := by kernel_rfl
  f22 := Tryd.func41.trans (congrArg some (by kernel_rfl))
  t0 := Tryd.underlying0
  a0 := Tryd.isAgg0
  z0 := Tryd.sizeOf0
  v0 := Tryd.zeroValue0
  t3 := Tryd.underlying3
  a3 := Tryd.isAgg3
  z3 := Tryd.sizeOf3
  v3 := Tryd.zeroValue3
  t4 := Tryd.underlying4
  a4 := Tryd.isAgg4
  z4 := Tryd.sizeOf4
  v4 := Tryd.zeroValue4
  z9 := Tryd.sizeOf44
  t24 := Tryd.underlying27
  a24 := Tryd.isAgg27
  z24 := Tryd.sizeOf27
  v24 := Tryd.zeroValue27
  i9 := by
    have h : (Tryd.prog.info? 44).map (fun i => (i.zero, i.size, i.bytes)) = some (some (.agg #[.string ByteArray.empty, .slice none 0 0]), 2, 40) := by kernel_rfl
    show ∃ i, Tryd.prog.info? 44 = some i ∧ _
    cases hi : Tryd.prog.info? 44 with
    | none => rw [hi] at h; cases h
    | some i =>
      rw [hi] at h
      simp only [Option.map_some, Option.some.injEq, Prod.mk.injEq] at h
      exact ⟨i, rfl, h.1, h.2.1, h.2.2⟩
  zk := rfl
  k0 := by decide
  f29 := fun u v w r h => by
    rw [show insG.f 29 = 59 from rfl, run_callFunc_extern Tryd.func59 (by kernel_rfl) (by kernel_rfl) (by kernel_rfl) (e := Extern.SlicesOverlaps.overlaps #[insG.t 24, insG.t 24] #[insG.t 4]) (by kernel_rfl), h]; rfl
def T_slices_Insert___impl_Group_impl_Group_ : List (List UInt8 × List (List UInt8)) × Int × List (List UInt8 × List (List UInt8)) → Option (List (List UInt8 × List (List UInt8))) := fun x =>
  if 0 ≤ x.2.1 ∧ x.2.1 ≤ x.1.length ∧ 0 < x.2.2.length ∧ x.1.length + x.2.2.length ≤ 9223372036854775807 ∧ (x.1.length + x.2.2.length) * 40 ≤ 140737488355328 then some (x.1.take x.2.1.toNat ++ x.2.2 ++ x.1.drop x.2.1.toNat) else none
theorem e_T_slices_Insert___impl_Group_impl_Group_ (a : List (List UInt8 × List (List UInt8))) (i : Int) (b : List (List UInt8 × List (List UInt8))) : T_slices_Insert___impl_Group_impl_Group_ (a, i, b) = if 0 ≤ i ∧ i ≤ a.length ∧ 0 < b.length ∧ a.length + b.length ≤ 9223372036854775807 ∧ (a.length + b.length) * 40 ≤ 140737488355328 then some (a.take i.toNat ++ b ++ a.drop i.toNat) else none := rfl
def fn_slices_Insert___impl_Group_impl_Group_ : TFn := ⟨41, [.cell (.sl true (.pair .str (.sl true .str))), .cell (.int .i64), .cell (.sl true (.pair .str (.sl true .str)))], [], [.cell (.sl true (.pair .str (.sl true .str)))], [], T_slices_Insert___impl_Group_impl_Group_⟩
theorem ins_okG (l : List (List UInt8 × List (List UInt8))) (i : Int) (l2 r : List (List UInt8 × List (List UInt8))) (hr : T_slices_Insert___impl_Group_impl_Group_ (l, i, l2) = some r) :
    Ok Tryd.prog 41 [.sl true 2 (l.map (ET.enc (.pair .str (.sl true .str)))), .lit (.int .i64 i), .sl true 2 (l2.map (ET.enc (.pair .str (.sl true .str))))] fun v outs => v = .sl true 2 (r.map (ET.enc (.pair .str (.sl true .str)))) ∧ Outs [] [] outs := by
  rw [e_T_slices_Insert___impl_Group_impl_Group_] at hr
  split at hr <;> try (cases hr; done)
  rename_i hc
  obtain ⟨h0, h1, h2, h3, h4⟩ := hc
  obtain ⟨i, rfl⟩ := Int.eq_ofNat_of_zero_le h0
  simp only [Option.some.injEq, Int.toNat_natCast] at hr
  subst hr
  have := ins_ok lay_insG (l.map (ET.enc (.pair .str (.sl true .str)))) (l2.map (ET.enc (.pair .str (.sl true .str)))) i (by rw [List.length_map]; omega) (by rw [List.length_map]; exact h2) (esLeaf_enc _ _ rfl) (esLeaf_enc _ _ rfl) (by rw [List.length_map, List.length_map]; exact h3) (by rw [List.length_map, List.length_map]; exact h4)
  rw [← List.map_take, ← List.map_drop, ← List.map_append, ← List.map_append] at this
  exact this
theorem ok_slices_Insert___impl_Group_impl_Group_ : FnOk Tryd.prog fn_slices_Insert___impl_Group_impl_Group_ := ⟨by kernel_rfl, fun x r hr => ins_okG x.1 x.2.1 x.2.2 r hr⟩
end Xs
end YtainknkfjekngaaDoor
end Go.Proofs
