/- slices.Grow at []string, an empty own slice that is made roomy. -/
import Derived.Test.YtjeikneboeallaaGreatDoorT7
import Derived.Test.YtjeikneboeallaaGreatDoorProg
import Derived.KernelRfl
import Derived.Shelf.Spec.SlicesGrow
namespace Go.Proofs
open Go Go.Shelf Go.RowKit
namespace YtjeikneboeallaaGreatDoor
open Vm
namespace Xs
set_option linter.unusedVariables false
set_option linter.unusedSimpArgs false
def grRen : Ren := ⟨fun | 4 => 85 | n => n, fun | 22 => 54 | 25 => 9 | 9 => 9 | 3 => 3 | 4 => 4 | 0 => 0 | 20 => 20 | n => n, fun n => n⟩
theorem lay_Grow : Lays8.n4 Tryz.prog grRen where
  mixed := by kernel_rfl
  f4 := ⟨Tryz.f85.name, by kernel_rfl, Tryz.func85.trans (congrArg some (by kernel_rfl))⟩
  t0 := Tryz.underlying0
  a0 := Tryz.isAgg0
  z0 := Tryz.sizeOf0
  v0 := Tryz.zeroValue0
  t3 := Tryz.underlying3
  a3 := Tryz.isAgg3
  z3 := Tryz.sizeOf3
  v3 := Tryz.zeroValue3
  t4 := Tryz.underlying4
  a4 := Tryz.isAgg4
  z4 := Tryz.sizeOf4
  v4 := Tryz.zeroValue4
  t9 := Tryz.underlying9
  a9 := Tryz.isAgg9
  z9 := Tryz.sizeOf9
  v9 := Tryz.zeroValue9
  t20 := Tryz.underlying20
  a20 := Tryz.isAgg20
  z20 := Tryz.sizeOf20
  v20 := Tryz.zeroValue20
  t22 := Tryz.underlying54
  a22 := Tryz.isAgg54
  z22 := Tryz.sizeOf54
  v22 := Tryz.zeroValue54
theorem strInfo : ∃ i, Tryz.prog.info? 9 = some i ∧ i.zero = some (.string ByteArray.empty) ∧ i.size = 1 ∧ i.bytes = 16 := by
  have h : (Tryz.prog.info? 9).map (fun i => (i.zero, i.size, i.bytes)) = some (some (.string ByteArray.empty), 1, 16) := by kernel_rfl
  cases hi : Tryz.prog.info? 9 with
  | none => rw [hi] at h; cases h
  | some i =>
    rw [hi] at h
    simp only [Option.map_some, Option.some.injEq, Prod.mk.injEq] at h
    exact ⟨i, rfl, h.1, h.2.1, h.2.2⟩
def T_slices_Grow___string_string_ : List (List UInt8) × Int → Option (List (List UInt8)) := fun x => match x.1 with
  | [] => if 0 ≤ x.2 ∧ x.2 * 16 ≤ 140737488355328 then some [] else none
  | _ => none
def fn_slices_Grow___string_string_ : TFn := ⟨85, [.cell (.sl true .str), .cell (.int .i64)], [], [.cell (.sl true .str)], [], T_slices_Grow___string_string_⟩
theorem grow_ok (l : List (List UInt8)) (n : Int) (r : List (List UInt8)) (hr : T_slices_Grow___string_string_ (l, n) = some r) :
    Ok Tryz.prog (grRen.f 4) [.sl true 1 (l.map (ET.enc .str)), .lit (.int .i64 n)] fun v outs => v = .sl true 1 (r.map (ET.enc .str)) ∧ Outs [] [] outs := by
  unfold T_slices_Grow___string_string_ at hr
  split at hr <;> try (cases hr; done)
  rename_i hl
  simp only at hl
  subst hl
  split at hr <;> try (cases hr; done)
  rename_i hn
  cases hr
  simp only at hn
  obtain ⟨n, rfl⟩ : ∃ k : Nat, n = (k : Int) := ⟨n.toNat, by omega⟩
  intro w S O vals htab hOS hOl hSl hrl
  obtain ⟨u, ur, F1, F2, rfl, l1, l2, d12, hu, hr2⟩ := hrl
  obtain ⟨ui, ur', F3, F4, rfl, l3, l4, d34, hui, hr3⟩ := hr2
  simp only [RV] at hui
  simp only [RL] at hr3
  subst hui; subst hr3
  obtain ⟨a, cap, rfl, ⟨hcap, hcm⟩, hs⟩ := hu
  obtain ⟨i0, hi0, hz0, hs0, hb0⟩ := strInfo
  by_cases hroom : n ≤ cap
  · refine (Any8.slices_Grow_room lay_Grow a 0 cap n w (Nat.zero_le _) hcm (by omega) (by omega)).mono ?_
    rintro e w' ⟨rfl, rfl⟩
    refine ⟨⟨_, .sl true 1 [], [.hole, .lit (.int .i64 n)], S, F1, CS.none, rfl, ⟨rfl, ?_⟩, CS.le.refl _, (CS.none_dj _).symm, ?_, CS.none_dj _, ?_, ?_, Pres.refl _ _, ?_, ?_⟩⟩
    · intro j i v h1 h2; simp at h1
    · intro b x h1 h2; exact hOS b x (l1 _ _ h1) h2
    · exact ⟨a, cap, rfl, ⟨Nat.zero_le _, hcm⟩, hs⟩
    · exact ⟨_, _, CS.none, CS.none, rfl, CS.le.refl _, CS.le.refl _, CS.none_dj _, trivial, _, _, CS.none, CS.none, rfl, CS.le.refl _, CS.le.refl _, CS.none_dj _, rfl, rfl⟩
    · rintro k x (h | h)
      · exact ⟨.inl (l1 _ _ h), hOl _ _ (l1 _ _ h)⟩
      · exact h.elim
    · intro k x h
      exact ⟨.inl h, hSl _ _ h⟩
  · have hcs : ∃ cs : List Value, cs.length = cap * i0.size ∧ (a = none → cap = 0) ∧ ∀ b, a = some b → ∀ j v, cs[j]? = some v → w.cell? (b.add j) = some v := by
      rcases hs with ⟨_, ho⟩ | ⟨rfl, _, rfl⟩ | ⟨b, o, uss, rfl, _, _, hO, _, _⟩
      · cases ho
      · exact ⟨[], by simp, fun _ => rfl, fun b h => by cases h⟩
      · refine ⟨(List.range cap).map fun j => (w.cell? ⟨b, o + j, none⟩).getD (.bool false), by simp [hs0], fun h => (by cases h), fun b' h j v hj => ?_⟩
        cases h
        rw [List.getElem?_map] at hj
        cases hr : (List.range cap)[j]? with
        | none => rw [hr] at hj; cases hj
        | some k =>
          rw [hr] at hj
          obtain ⟨hk, hk2⟩ := List.getElem?_eq_some_iff.1 hr
          simp at hk hk2
          subst hk2
          obtain ⟨_, h2, _⟩ := hO rfl j (by omega)
          simp only [Option.map_some, Option.some.injEq] at hj
          obtain ⟨v', hv'⟩ := Option.isSome_iff_exists.1 h2
          rw [hv'] at hj
          simp only [Option.getD_some] at hj
          subst hj
          by_cases hj0 : j = 0
          · subst hj0
            simpa [Addr.add] using hv'
          · simpa [Addr.add, hj0] using hv'
    obtain ⟨cs, hc1, hc2, hc3⟩ := hcs
    refine (Any8.slices_Grow_grow lay_Grow i0 (.string ByteArray.empty) hi0 hz0 (by omega) a 0 cap n cs w (Nat.zero_le _) (by omega) (by rw [hb0]; omega) (by omega) hc1 hc2 hc3).mono ?_
    rintro e w' ⟨rfl, rfl⟩
    have hG1 : n ≤ grownCap w (0 + n) cap (grRen.t 25) := by have := grownCap_ge w (0 + n) cap (grRen.t 25); omega
    have hG2 : grownCap w (0 + n) cap (grRen.t 25) ≤ 9223372036854775807 := by
      have := grownCap_le_maxLen w (0 + n) cap (grRen.t 25) (by unfold Go.maxLen; omega)
      unfold Go.maxLen at this; omega
    generalize grownCap w (0 + n) cap (grRen.t 25) = G at hG1 hG2 ⊢
    have hsz : (cs.toArray ++ Builtin.zeroCells (Value.string ByteArray.empty).cells (0 + n - cap) ++ Builtin.zeroCells (Value.string ByteArray.empty).cells (G - (0 + n))).size = G := by
      have hz : ∀ k, (Builtin.zeroCells (Value.string ByteArray.empty).cells k).size = k := fun k => by simp [Builtin.zeroCells, Value.cells]
      rw [Array.size_append, Array.size_append, hz, hz]
      simp only [List.size_toArray]
      rw [hs0] at hc1
      omega
    generalize hcc : (cs.toArray ++ Builtin.zeroCells (Value.string ByteArray.empty).cells (0 + n - cap) ++ Builtin.zeroCells (Value.string ByteArray.empty).cells (G - (0 + n))) = cc at hsz ⊢
    have hp : Pres CS.none w (w.drew.alloc (.cells cc (grRen.t 25))) := ⟨rfl, rfl, by show w.heap.size ≤ (w.heap.push _).size; rw [Array.size_push]; omega, fun b o h => ⟨o, by
      have := heap_lt h
      show (w.heap.push _)[b]? = some o
      rw [Array.getElem?_push_lt this, ← h, Array.getElem?_eq_getElem this], .inl rfl⟩⟩
    have hnew : (w.drew.alloc (.cells cc (grRen.t 25))).heap[w.heap.size]? = some (.cells cc (grRen.t 25)) := by
      show (w.heap.push _)[w.heap.size]? = _
      rw [Array.getElem?_push_size]
    refine ⟨⟨_, .sl true 1 [], [.hole, .lit (.int .i64 n)], S, fun b _ => b = w.heap.size, CS.none, rfl, ⟨rfl, ?_⟩, CS.le.refl _, (CS.none_dj _).symm, ?_, CS.none_dj _, ?_, ?_, hp.mono (fun b x _ h => h.elim), ?_, ?_⟩⟩
    · intro j i v h1 h2; simp at h1
    · rintro b x rfl h2
      exact absurd (hSl _ _ h2) (by omega)
    · refine ⟨some ⟨w.heap.size, 0, none⟩, G, rfl, ⟨Nat.zero_le _, hG2⟩, .inr (.inr ⟨w.heap.size, 0, [], rfl, ?_, ?_, ?_, ?_, rfl⟩)⟩
      · intro e he; cases he
      · intro k m hk; simp at hk
      · intro _ x hx
        have hx' : x < cc.size := by omega
        refine ⟨rfl, ?_, ?_⟩
        · simp only [World.cell?, hnew, Nat.zero_add]
          simp [hx']
        · exact ⟨_, _, hnew⟩
      · intro h; cases h
    · exact ⟨_, _, CS.none, CS.none, rfl, CS.le.refl _, CS.le.refl _, CS.none_dj _, trivial, _, _, CS.none, CS.none, rfl, CS.le.refl _, CS.le.refl _, CS.none_dj _, rfl, rfl⟩
    · rintro k x (h | h)
      · subst h
        exact ⟨.inr (Nat.le_refl _), heap_lt hnew⟩
      · exact h.elim
    · intro k x h
      exact ⟨.inl h, Nat.lt_of_lt_of_le (hSl _ _ h) hp.size⟩
theorem ok_slices_Grow___string_string_ : FnOk Tryz.prog fn_slices_Grow___string_string_ := ⟨by kernel_rfl, fun x r hr => grow_ok x.1 x.2 r hr⟩
end Xs
end YtjeikneboeallaaGreatDoor
end Go.Proofs
