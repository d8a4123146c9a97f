/- strings.Builder's WriteString and String, as the machine needs them: what is written, and that nothing else turns. -/
import Derived.Test.YtkjpdhdmjjepfaaDoorT7
import Derived.Test.YtkjpdhdmjjepfaaDoorBldL
import Derived.KernelRfl
namespace Go.Proofs
open Go Go.Shelf Go.RowKit
namespace YtkjpdhdmjjepfaaDoor
open Vm
namespace Xs
set_option linter.unusedVariables false
set_option linter.unusedSimpArgs false

/-- All blocks but two stay. -/
structure Kept2 (b : Nat) (r : Option Nat) (w w' : World) : Prop where
  os : w'.os = w.os
  output : w'.output = w.output
  size : w.heap.size ≤ w'.heap.size
  block : ∀ k, k < w.heap.size → k ≠ b → some k ≠ r → w'.heap[k]? = w.heap[k]?

section
variable {P : Program} {ρ : Ren}

theorem run_app_str (w : World) (t u ty e : TypeId) (i : TypeInfo) (ht : P.underlying t = some (.slice e)) (hu : P.underlying u = some .string) (hi : P.info? e = some i) (hz : i.zero = some (.int .u8 0))
    (hsize : i.size = 1) (hby : i.bytes = 1) (v : Value) (n : Nat) (xs : List Value) (hown : w.ownsRow 0 e 1 v n xs) (s : ByteArray) (hlen : n + s.size ≤ 140737488355328) :
    ∃ v' w', (Builtin.append_ #[t, u] ty #[v, .string s]).run P w = .ok v' w' ∧ w'.ownsRow 0 e 1 v' (n + s.size) (xs ++ Lib.strCells s) ∧ w.grownBy w' v.ownBlock ∧
      ∀ g, v'.ownBlock = some g → v.ownBlock = some g ∨ w.heap.size ≤ g := by
  have h63 : n + s.size ≤ maxLen := by unfold maxLen; omega
  obtain ⟨v', w', hr, h1, h2, _⟩ := Lib.run_append_own_string w 0 t u ty e i ht hu hi hz hsize hby v n xs hown s h63 hlen (Nat.zero_le _)
  refine ⟨v', w', hr, h1, h2, fun g hg => ?_⟩
  rcases hown.2 with ⟨rfl, rfl⟩ | ⟨g0, cap, cur, rfl, hbg, hgh, hnc, hcm, hcs, htake⟩
  · obtain ⟨v2, w2, hr2, h3, _, _⟩ := Lib.run_append_own_string w w.heap.size t u ty e i ht hu hi hz hsize hby (.slice none 0 0) 0 xs ⟨hown.1, .inl ⟨rfl, rfl⟩⟩ s h63 hlen (Nat.le_refl _)
    rw [hr] at hr2
    cases hr2
    rcases h3.2 with ⟨rfl, _⟩ | ⟨g1, _, _, rfl, hb1, _⟩
    · simp [Value.ownBlock] at hg
    · simp only [Value.ownBlock, Option.some.injEq] at hg
      subst hg; exact .inr hb1
  · have hcs' : cur.size = cap := by simpa using hcs
    by_cases hroom : n + s.size ≤ cap
    · have hr2 := Lib.run_append_room_string (P := P) w t u ty e i ht hu hi hsize g0 n cap cur hgh s hroom (by omega)
      rw [hr] at hr2
      cases hr2
      exact .inl hg
    · have holds : ∀ j u, xs[j]? = some u → w.cell? ((⟨g0, 0, none⟩ : Addr).add j) = some u := hown.cells (g := g0) rfl
      have hxl : xs.length = n := by simpa using hown.1
      have hr2 := Lib.run_append_grow_string (P := P) w t u ty e i (.int .u8 0) ht hu hi hz ⟨g0, 0, none⟩ n cap xs (by rw [hsize]; simpa using hxl) holds s (by omega) (by omega) (by rw [hby]; exact growslice_fits (by omega) (by omega))
      rw [hr] at hr2
      cases hr2
      simp only [Value.ownBlock, Option.some.injEq] at hg
      subst hg; exact .inr (Nat.le_refl _)

theorem wpList_app_str {ops : Array Oper} {rest : List Oper} {o : Oper} {a : Act} {Q : Exit → Act → World → Prop} {w : World} (hgd : o.guard = none) (sl x : Operand) (t u : TypeId)
    (ho : o.op = .call { callee := .builtin .append, args := #[sl, x], argTypes := #[t, u] })
    (e : TypeId) (i : TypeInfo) (ht : P.underlying t = some (.slice e)) (hu : P.underlying u = some .string) (hi : P.info? e = some i) (hz : i.zero = some (.int .u8 0))
    (hsize : i.size = 1) (hby : i.bytes = 1) (v : Value) (n : Nat) (xs : List Value) (hs : a.eval sl = v) (hown : w.ownsRow 0 e 1 v n xs) (s : ByteArray) (hx : a.eval x = .string s)
    (hlen : n + s.size ≤ 140737488355328)
    (h : ∀ v' w', w'.ownsRow 0 e 1 v' (n + s.size) (xs ++ Lib.strCells s) → w.grownBy w' v.ownBlock → (∀ g, v'.ownBlock = some g → v.ownBlock = some g ∨ w.heap.size ≤ g) → wpList P ops Q rest (a.put o.dst v') w') : wpList P ops Q (o :: rest) a w := by
  refine wpList_plain hgd fun K hK => ?_
  obtain ⟨v', w', hr, h2, h3, h4⟩ := run_app_str (P := P) w t u o.type e i ht hu hi hz hsize hby v n xs hown s hlen
  unfold Oper.wp execOp
  simp only [ho, resolve, invoke, builtin, Sem.run_bind, Sem.run_pure, Result.andThen_ok, List.map_toArray, List.map_cons, List.map_nil, hs, hx, hr]
  exact hK _ _ (h v' w' h2 h3 h4)

theorem bld_check (L : Lays.n240 P ρ) (X : Builder.X72 P ρ) (b : Nat) (p v : Value) (w : World) (hb : w.heap[b]? = some (.cells #[p, v] (ρ.t 72) (0, 0))) (hp : p = .pointer none ∨ p = .pointer (some ⟨b, 0, none⟩)) :
    Calls P (ρ.f 240) #[.pointer (some ⟨b, 0, none⟩)] w fun e w' => e = .returned (.tuple #[]) ∧ w'.heap[b]? = some (.cells #[.pointer (some ⟨b, 0, none⟩), v] (ρ.t 72) (0, 0)) ∧ Kept2 b none w w' ∧ w'.heap.size = w.heap.size := by
  rcases hp with rfl | rfl
  · refine (Any.Builder_copyCheck_fresh L X b w (by rw [Lib.cell_of_heap hb]; rfl) (by simp [World.shape?, hb]) (Lib.frozen_of_heap hb 0)).mono ?_
    rintro e w' ⟨rfl, rfl⟩
    refine ⟨rfl, by simp [World.setCell, Array.getElem?_modify, hb], ⟨rfl, rfl, by simp [World.setCell], fun k hk hne _ => ?_⟩, by simp [World.setCell]⟩
    exact Below.heap_setCell _ _ _ _ (fun e => hne (by simpa using e))
  · refine (Any.Builder_copyCheck_used L X b w (by rw [Lib.cell_of_heap hb]; rfl)).mono ?_
    rintro e w' ⟨rfl, rfl⟩
    exact ⟨rfl, hb, ⟨rfl, rfl, Nat.le_refl _, fun _ _ _ _ => rfl⟩, rfl⟩

set_option maxHeartbeats 2000000 in
set_option maxRecDepth 100000 in
theorem bld_write (L : Lays.n166 P ρ) (X : Builder.Extra P ρ) (b : Nat) (p v : Value) (xs : List Value) (n : Nat) (s : ByteArray) (w : World) (hb : w.heap[b]? = some (.cells #[p, v] (ρ.t 72) (0, 0))) (hp : p = .pointer none ∨ p = .pointer (some ⟨b, 0, none⟩))
    (hown : w.ownsRow 0 (ρ.t 5) 1 v n xs) (hne : v.ownBlock ≠ some b) (hlen : n + s.size ≤ 140737488355328) :
    Calls P (ρ.f 166) #[.pointer (some ⟨b, 0, none⟩), .string s] w fun e w' => e = .returned (.tuple #[.int .i64 s.size, .nilIface]) ∧ ∃ v', w'.heap[b]? = some (.cells #[.pointer (some ⟨b, 0, none⟩), v'] (ρ.t 72) (0, 0)) ∧
      w'.ownsRow 0 (ρ.t 5) 1 v' (n + s.size) (xs ++ Lib.strCells s) ∧ v'.ownBlock ≠ some b ∧ (∀ g, v'.ownBlock = some g → v.ownBlock = some g ∨ w.heap.size ≤ g) ∧ Kept2 b v.ownBlock w w' := by
  obtain ⟨i0, hi, hz0, hz1, hz2⟩ := info_parts X.infoByte
  have mixed := L.mixed
  have t72 := L.t72; have a72 := L.a72; have z72 := L.z72; have v72 := L.v72; have u72 := run_underlying L.t72
  have t70 := L.t70; have a70 := L.a70; have z70 := L.z70; have v70 := L.v70; have u70 := run_underlying L.t70
  have t37 := L.t37; have a37 := L.a37; have z37 := L.z37; have v37 := L.v37; have u37 := run_underlying L.t37
  have t3 := L.t3; have a3 := L.a3; have z3 := L.z3; have v3 := L.v3; have u3 := run_underlying L.t3
  have t9 := L.t9; have a9 := L.a9; have z9 := L.z9; have v9 := L.v9; have u9 := run_underlying L.t9
  have t5 := X.t5; have a5 := X.a5; have z5 := X.z5; have v5 := X.v5; have u5 := run_underlying X.t5
  have e240 : ∀ args w, (callFunc (ρ.f 240) args).run P w = .ok (.enter (ρ.f 240) args) w := enters_of L.f240 (by kernel_rfl) rfl
  go_enter L.f166, Body.n166_ntmps ρ
  go_wp2_with (go_at_fn (ρ.f 240); refine (bld_check { L with } X.toX72 b p v _ hb hp).mono ?_)
  rintro e w1 ⟨rfl, hbk, hk1, hs1⟩
  have hown1 : w1.ownsRow 0 (ρ.t 5) 1 v n xs := by
    refine ⟨hown.1, ?_⟩
    rcases hown.2 with h | ⟨g, cap, cur, rfl, h1, h2, h3⟩
    · exact .inl h
    · refine .inr ⟨g, cap, cur, rfl, h1, ?_, h3⟩
      rw [hk1.block g (heap_lt h2) (fun e => hne (by simp [Value.ownBlock, e])) (by simp)]; exact h2
  have c0 : w1.cell? ⟨b, 0, none⟩ = some (.pointer (some ⟨b, 0, none⟩)) := by rw [Lib.cell_of_heap hbk]; rfl
  have c1 : w1.cell? ⟨b, 1, none⟩ = some v := by rw [Lib.cell_of_heap hbk]; rfl
  go_wp2_with (at_builtin; refine wpList_app_str rfl _ _ (ρ.t 37) (ρ.t 9) rfl (ρ.t 5) i0 L.t37 L.t9 hi hz0 hz1 hz2 _ _ _ rfl hown1 s rfl hlen ?_)
  intro v' w2 hown' hgrow hfr
  have hb2 : w2.heap[b]? = some (.cells #[.pointer (some ⟨b, 0, none⟩), v] (ρ.t 72) (0, 0)) := by
    rw [hgrow.block b (heap_lt hbk) (fun e => hne e.symm)]
    exact hbk
  have d0 : w2.cell? ⟨b, 0, none⟩ = some (.pointer (some ⟨b, 0, none⟩)) := by rw [Lib.cell_of_heap hb2]; rfl
  have d1 : w2.cell? ⟨b, 1, none⟩ = some v := by rw [Lib.cell_of_heap hb2]; rfl
  have f1 : w2.frozen? ⟨b, 1, none⟩ = false := Lib.frozen_of_heap hb2 1
  have hnb : v'.ownBlock ≠ some b := fun e => by
    rcases hfr b e with h | h
    · exact hne h
    · have := heap_lt hbk; omega
  obtain ⟨ao, n', cap, rfl⟩ : ∃ ao n' cap, v' = .slice ao n' cap := by
    rcases hown'.2 with ⟨hv, _⟩ | ⟨g, cap, cur, hv, _⟩
    · exact ⟨_, _, _, hv⟩
    · exact ⟨_, _, _, hv⟩
  go_wp2
  go_ret2
  refine ⟨rfl, .slice ao n' cap, ?_, ?_, hnb, fun g hg => ?_, ?_⟩
  · simp [World.setCell, Array.getElem?_modify, hb2]
  · refine ⟨hown'.1, ?_⟩
    rcases hown'.2 with h | ⟨g, cap, cur, he, h1, h2, h3⟩
    · exact .inl h
    · refine .inr ⟨g, cap, cur, he, h1, ?_, h3⟩
      rw [Below.heap_setCell _ _ _ _ (fun e => hnb (by rw [he]; simp at e; simp [Value.ownBlock, e]))]; exact h2
  · rcases hfr g hg with h | h
    · exact .inl h
    · exact .inr (by omega)
  · refine ⟨?_, ?_, ?_, fun k hk h1 h2 => ?_⟩
    · show w2.os = w.os
      rw [hgrow.os, hk1.os]
    · show w2.output = w.output
      rw [hgrow.output, hk1.output]
    · have := hgrow.size
      simp [World.setCell]; omega
    · rw [Below.heap_setCell _ _ _ _ (fun e => h1 (by simpa using e)), hgrow.block k (by omega) h2, hk1.block k hk h1 (by simp)]

set_option maxHeartbeats 1000000 in
set_option maxRecDepth 100000 in
theorem bld_string (L : Lays.n169 P ρ) (X : Builder.Extra P ρ) (b : Nat) (p v : Value) (l : List UInt8) (w : World) (hb : w.heap[b]? = some (.cells #[p, v] (ρ.t 72) (0, 0))) (hown : w.ownsRow 0 (ρ.t 5) 1 v l.length (Lib.byteCells l)) (h0 : l ≠ []) :
    Calls P (ρ.f 169) #[.pointer (some ⟨b, 0, none⟩)] w fun e w' => e = .returned (.string ⟨l.toArray⟩) ∧ Kept2 b v.ownBlock w w' := by
  have hl0 : l.length ≠ 0 := by simpa using h0
  obtain ⟨g, cap, cur, rfl, hbg, hg, hnc, hcm, hcs, htake⟩ : ∃ g cap cur, v = .slice (some ⟨g, 0, none⟩) l.length cap ∧ 0 ≤ g ∧ w.heap[g]? = some (.cells cur (ρ.t 5) (0, 0)) ∧ l.length ≤ cap ∧ cap ≤ maxLen ∧ cur.size = cap * 1 ∧ cur.toList.take (l.length * 1) = Lib.byteCells l := by
    rcases hown.2 with ⟨_, hz⟩ | ⟨g, cap, cur, hv, r⟩
    · exact absurd hz hl0
    · exact ⟨g, cap, cur, hv, r⟩
  have c1 : w.drew.cell? ⟨b, 1, none⟩ = some (.slice (some ⟨g, 0, none⟩) l.length cap) := by
    have : w.drew.heap[b]? = some (.cells #[p, .slice (some ⟨g, 0, none⟩) l.length cap] (ρ.t 72) (0, 0)) := hb
    rw [Lib.cell_of_heap this]; rfl
  have hSD : (Builtin.unsafeSliceData_ #[(ρ.t 37)] (ρ.t 127) #[.slice (some ⟨g, 0, none⟩) l.length cap]).run P w.drew = .ok (.pointer (some ⟨g, 0, none⟩)) w.drew :=
    Lib.run_unsafeSliceData_row _ _ _ _ _ _ (by omega)
  have hUS : (Builtin.unsafeString_ #[(ρ.t 127), (ρ.t 3)] (ρ.t 9) #[.pointer (some ⟨g, 0, none⟩), .int .i64 l.length]).run P w.drew = .ok (.string ⟨l.toArray⟩) (w.drew.freeze ⟨g, 0, none⟩ l.length) := by
    refine Lib.run_unsafeString_row w.drew (ρ.t 127) (ρ.t 3) (ρ.t 9) (ρ.t 5) L.t127 X.cellsByte g cur.size (by have hg' : w.drew.heap[g]? = some (.cells cur (ρ.t 5) (0, 0)) := hg; simp [World.shape?, hg']) l h0 (by omega) (by unfold maxLen at hcm; omega) ?_
    intro j x hx
    have := hown.cells (g := g) rfl j (.int .u8 x.toNat) (by simp [Lib.byteCells, hx])
    exact this
  have hfin : Kept2 b (Value.ownBlock (.slice (some ⟨g, 0, none⟩) l.length cap)) w (w.drew.freeze ⟨g, 0, none⟩ l.length) := by
    have hz : ∀ k, k ≠ g → (w.drew.freeze ⟨g, 0, none⟩ l.length).heap[k]? = w.heap[k]? := fun k hk => by
      simp only [World.freeze, if_neg hl0, Array.getElem?_modify, if_neg (Ne.symm hk)]; rfl
    refine ⟨?_, ?_, ?_, fun k hk h1 h2 => hz k (fun e => h2 (by simp [Value.ownBlock, e]))⟩
    · simp only [World.freeze, if_neg hl0]; rfl
    · simp only [World.freeze, if_neg hl0]; rfl
    · simp only [World.freeze, if_neg hl0, Array.size_modify]; exact Nat.le_refl _
  have mixed := L.mixed
  have t72 := L.t72; have a72 := L.a72; have z72 := L.z72; have v72 := L.v72; have u72 := run_underlying L.t72
  have t70 := L.t70; have a70 := L.a70; have z70 := L.z70; have v70 := L.v70; have u70 := run_underlying L.t70
  have t37 := L.t37; have a37 := L.a37; have z37 := L.z37; have v37 := L.v37; have u37 := run_underlying L.t37
  have t127 := L.t127; have a127 := L.a127; have z127 := L.z127; have v127 := L.v127; have u127 := run_underlying L.t127
  have t3 := L.t3; have a3 := L.a3; have z3 := L.z3; have v3 := L.v3; have u3 := run_underlying L.t3
  have t9 := L.t9; have a9 := L.a9; have z9 := L.z9; have v9 := L.v9; have u9 := run_underlying L.t9
  have t5 := X.t5; have a5 := X.a5; have z5 := X.z5; have v5 := X.v5; have u5 := run_underlying X.t5
  go_enter L.f169, Body.n169_ntmps ρ
  go_wp2
  go_region_o
  all_goals (go_wp2; go_ret; exact ⟨rfl, hfin⟩)

theorem Kept2.pres {b : Nat} {r : Option Nat} {w w' : World} (h : Kept2 b r w w') {O : CS} (hb : ∀ x, O b x) (hr : ∀ g, r = some g → ∀ x, O g x) : Pres O w w' := by
  refine ⟨h.os, h.output, h.size, fun k o hk => ?_⟩
  have hlt := heap_lt hk
  by_cases e : k = b
  · subst e
    exact ⟨_, Array.getElem?_eq_getElem (Nat.lt_of_lt_of_le hlt h.size), .inr (.inl hb)⟩
  · by_cases e2 : some k = r
    · exact ⟨_, Array.getElem?_eq_getElem (Nat.lt_of_lt_of_le hlt h.size), .inr (.inl (hr k e2.symm))⟩
    · exact ⟨o, (h.block k hlt e e2).trans hk, .inl rfl⟩
end

theorem strCells_ba (s : List UInt8) : Lib.strCells (ba s) = Lib.byteCells s := rfl

def T___strings_Builder__WriteString : List UInt8 × List UInt8 → Option (Int × Unit × List UInt8) := fun x =>
  if x.1.length + x.2.length ≤ 140737488355328 then some ((x.2.length : Int), (), x.1 ++ x.2) else none
def fn___strings_Builder__WriteString : TFn := ⟨122, [.bld 146 5, .cell .str], [0], [.cell (.int .i64), .cell .unit], [.bld 146 5], T___strings_Builder__WriteString⟩
theorem write_ok (s t : List UInt8) (r : Int × Unit × List UInt8) (hr : T___strings_Builder__WriteString (s, t) = some r) :
    Ok Tryd.prog (bldRen.f 166) [.bld (bldRen.t 72) (bldRen.t 5) s, .lit (.string (ba t))] fun v outs => v = .tup [.lit (.int .i64 r.1), .hole] ∧ Outs [0] [.bld (bldRen.t 72) (bldRen.t 5) r.2.2] outs := by
  unfold T___strings_Builder__WriteString at hr
  split at hr <;> try (cases hr; done)
  rename_i hlen
  cases hr
  simp only at hlen
  intro w S O vals htab hOS hOl hSl hrl
  obtain ⟨u, ur, F1, F2, rfl, l1, l2, d12, hu, hr2⟩ := hrl
  obtain ⟨ui, ur', F3, F4, rfl, l3, l4, d34, hui, hr3⟩ := hr2
  simp only [RV] at hui
  simp only [RL] at hr3
  subst hui; subst hr3
  obtain ⟨b, p, v, rfl, hFb, hp, hbk, hown, hne, hFg⟩ := hu
  refine (bld_write bld166 bldX b p v (Lib.byteCells s) s.length (ba t) w hbk hp hown hne (by rw [show (ba t).size = t.length from by simp [ba, ByteArray.size]]; exact hlen)).mono ?_
  rintro e w' ⟨rfl, v', hb', hown', hne', hfr, hk⟩
  have hsz : (ba t).size = t.length := by simp [ba, ByteArray.size]
  refine ⟨⟨_, .tup [.lit (.int .i64 t.length), .hole], [.bld (bldRen.t 72) (bldRen.t 5) (s ++ t), .lit (.string (ba t))], S, CS.none, fun k _ => k = b ∨ v'.ownBlock = some k, rfl, ⟨rfl, ?_⟩, CS.le.refl _, CS.none_dj _, CS.none_dj _, ?_, ?_, ?_,
    hk.pres (fun x => l1 _ _ (hFb x)) (fun g hg x => l1 _ _ (hFg g hg x)), ?_, ?_⟩⟩
  · intro j i v h1 h2
    match j with
    | 0 => simp at h1 h2; subst h1; subst h2; rfl
    | j + 1 => simp at h1
  · rintro k x h1 h2
    rcases h1 with rfl | h1
    · exact hOS _ _ (l1 _ _ (hFb x)) h2
    · rcases hfr k h1 with h3 | h3
      · exact hOS _ _ (l1 _ _ (hFg k h3 x)) h2
      · exact absurd (hSl _ _ h2) (by omega)
  · refine ⟨_, rfl, _, _, CS.none, CS.none, rfl, CS.le.refl _, CS.le.refl _, CS.none_dj _, ?_, _, _, CS.none, CS.none, rfl, CS.le.refl _, CS.le.refl _, CS.none_dj _, trivial, rfl⟩
    simp only [RV]; rw [hsz]
  · refine ⟨_, _, _, CS.none, rfl, CS.le.refl _, CS.none_le _, (CS.none_dj _).symm, ?_, _, _, CS.none, CS.none, rfl, CS.le.refl _, CS.le.refl _, CS.none_dj _, rfl, rfl⟩
    refine ⟨b, _, v', rfl, fun _ => .inl rfl, .inr rfl, hb', ?_, hne', fun g hg _ => .inr hg⟩
    have : Lib.byteCells (s ++ t) = Lib.byteCells s ++ Lib.strCells (ba t) := by simp [Lib.byteCells, Lib.strCells, ba]
    rw [this, List.length_append, ← hsz]
    exact hown'
  · rintro k x (h | h)
    · exact h.elim
    · rcases h with rfl | h
      · exact ⟨.inl (l1 _ _ (hFb x)), heap_lt hb'⟩
      · refine ⟨?_, ?_⟩
        · rcases hfr k h with h3 | h3
          · exact .inl (l1 _ _ (hFg k h3 x))
          · exact .inr h3
        · rcases hown'.2 with ⟨rfl, _⟩ | ⟨g, cap, cur, rfl, _, hg, _⟩
          · simp [Value.ownBlock] at h
          · simp only [Value.ownBlock, Option.some.injEq] at h
            subst h; exact heap_lt hg
  · intro k x h
    exact ⟨.inl h, Nat.lt_of_lt_of_le (hSl _ _ h) hk.size⟩
theorem ok___strings_Builder__WriteString : FnOk Tryd.prog fn___strings_Builder__WriteString := ⟨by kernel_rfl, fun x r hr => write_ok x.1 x.2 r hr⟩

def T___strings_Builder__String : List UInt8 → Option (List UInt8) := fun x => if x.isEmpty then none else some x
def fn___strings_Builder__String : TFn := ⟨123, [.bld 146 5], [], [.cell .str], [], T___strings_Builder__String⟩
theorem string_ok (s r : List UInt8) (hr : T___strings_Builder__String s = some r) :
    Ok Tryd.prog (bldRen.f 169) [.bld (bldRen.t 72) (bldRen.t 5) s] fun v outs => v = .lit (.string (ba r)) ∧ Outs [] [] outs := by
  unfold T___strings_Builder__String at hr
  split at hr <;> try (cases hr; done)
  rename_i h0
  cases hr
  intro w S O vals htab hOS hOl hSl hrl
  obtain ⟨u, ur, F1, F2, rfl, l1, l2, d12, hu, hr2⟩ := hrl
  simp only [RL] at hr2
  subst hr2
  obtain ⟨b, p, v, rfl, hFb, hp, hbk, hown, hne, hFg⟩ := hu
  refine (bld_string bld169 bldX b p v s w hbk hown (by simpa using h0)).mono ?_
  rintro e w' ⟨rfl, hk⟩
  refine ⟨⟨_, .lit (.string (ba s)), [.hole], S, CS.none, CS.none, rfl, ⟨rfl, ?_⟩, CS.le.refl _, CS.none_dj _, CS.none_dj _, CS.none_dj _, rfl, ?_, hk.pres (fun x => l1 _ _ (hFb x)) (fun g hg x => l1 _ _ (hFg g hg x)), ?_, ?_⟩⟩
  · intro j i v h1 h2; simp at h1
  · exact ⟨_, _, CS.none, CS.none, rfl, CS.le.refl _, CS.le.refl _, CS.none_dj _, trivial, rfl⟩
  · rintro k x (h | h) <;> exact h.elim
  · intro k x h
    exact ⟨.inl h, Nat.lt_of_lt_of_le (hSl _ _ h) hk.size⟩
theorem ok___strings_Builder__String : FnOk Tryd.prog fn___strings_Builder__String := ⟨by kernel_rfl, fun x r hr => string_ok x r hr⟩
end Xs
end YtkjpdhdmjjepfaaDoor
end Go.Proofs
