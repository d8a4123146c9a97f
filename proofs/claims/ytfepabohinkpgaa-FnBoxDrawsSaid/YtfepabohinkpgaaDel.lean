/- slices.Delete at []string, taken from the library's contract for it: what it leaves, and what it hands back. -/
import Derived.Test.YtfepabohinkpgaaT7
import Derived.Test.YtfepabohinkpgaaProg
import Derived.KernelRfl
import Derived.Shelf.Slices.Delete
namespace Go.Proofs
open Go Go.Shelf Go.Sort
namespace Ytfepabohinkpgaa
open Vm
namespace Xs
set_option linter.unusedVariables false
set_option linter.unusedSimpArgs false

def delRen : Ren := ⟨fun | 24 => 82 | n => n, fun | 24 => 33 | 0 => 0 | 3 => 3 | 4 => 4 | 9 => 9 | n => n, fun n => n⟩
theorem delLays : Lays2.n24 Try.prog delRen where
  mixed := by kernel_rfl
  f24 := Try.func82.trans (congrArg some (by kernel_rfl))
  t0 := Try.underlying0
  a0 := Try.isAgg0
  z0 := Try.sizeOf0
  v0 := Try.zeroValue0
  t3 := Try.underlying3
  a3 := Try.isAgg3
  z3 := Try.sizeOf3
  v3 := Try.zeroValue3
  t4 := Try.underlying4
  a4 := Try.isAgg4
  z4 := Try.sizeOf4
  v4 := Try.zeroValue4
  t9 := Try.underlying9
  a9 := Try.isAgg9
  z9 := Try.sizeOf9
  v9 := Try.zeroValue9
  t24 := Try.underlying33
  a24 := Try.isAgg33
  z24 := Try.sizeOf33
  v24 := Try.zeroValue33
  i9 := by kernel_rfl

theorem rl_str {w : World} {S : CS} {A : AlSem} {s : List UInt8} {us : List Value} {F : CS} (h : RL w S A (ET.enc .str s) us F) : us = [encStr s] := by
  obtain ⟨u, ur, F1, F2, rfl, _, _, _, hu, hr⟩ := h
  simp only [RV] at hu
  simp only [RL] at hr
  subst hu; subst hr; rfl
theorem str_rl (w : World) (S : CS) (A : AlSem) (s : List UInt8) (F : CS) : RL w S A (ET.enc .str s) [encStr s] F :=
  ⟨_, _, CS.none, CS.none, rfl, CS.none_le _, CS.none_le _, CS.none_dj _, rfl, rfl⟩
theorem rll_str {w : World} {S : CS} {A : AlSem} : ∀ {l : List (List UInt8)} {uss : List (List Value)} {F : CS}, RLL w S A (l.map (ET.enc .str)) uss F → uss = l.map fun s => [encStr s]
  | [], uss, F, h => by simpa [RLL] using h
  | s :: l, uss, F, h => by
    obtain ⟨us, ur, F1, F2, rfl, _, _, _, hu, hr⟩ := h
    rw [rl_str hu, rll_str hr]; rfl
theorem str_rll (w : World) (S : CS) (A : AlSem) : ∀ (l : List (List UInt8)) (F : CS), RLL w S A (l.map (ET.enc .str)) (l.map fun s => [encStr s]) F
  | [], F => rfl
  | s :: l, F => ⟨_, _, CS.none, CS.none, rfl, CS.none_le _, CS.none_le _, CS.none_dj _, str_rl _ _ _ _ _, str_rll w S A l _⟩

theorem pres_putRow (w : World) (q blk off : Nat) (d : Array (List UInt8)) (O : CS) (hO : ∀ j, j < d.size → O blk (off + j)) : Pres O w (putRow encStr (Sort.ahead w q) blk off d) := by
  refine ⟨rfl, rfl, by simp [Sort.ahead], fun b o hb => ?_⟩
  simp only [putRow, mapBlock, Sort.ahead, Array.getElem?_modify]
  by_cases h : blk = b
  · subst h
    rw [if_pos rfl, hb]
    cases o with
    | cells c t f =>
      refine ⟨_, rfl, .inr ⟨c, _, t, f, rfl, rfl, ?_, fun x hx => ?_⟩⟩
      · simp [putCells]
      · simp only [putCells, Array.getElem?_mapIdx]
        have : ¬ (off ≤ x ∧ x < off + d.size) := fun hh => by
          have := hO (x - off) (by omega)
          rw [show off + (x - off) = x by omega] at this
          exact hx this
        simp [this]
    | _ => exact ⟨_, rfl, .inl rfl⟩
  · rw [if_neg h]
    exact ⟨o, hb, .inl rfl⟩

def T_slices_Delete___string_string_ : List (List UInt8) × Int × Int → Option (List (List UInt8)) := fun x =>
  if 0 < x.1.length ∧ 0 ≤ x.2.1 ∧ x.2.1 ≤ x.2.2 ∧ x.2.2 ≤ x.1.length then some (x.1.take x.2.1.toNat ++ x.1.drop x.2.2.toNat) else none
def fn_slices_Delete___string_string_ : TFn := ⟨82, [.cell (.sl true .str), .cell (.int .i64), .cell (.int .i64)], [], [.cell (.sl true .str)], [], T_slices_Delete___string_string_⟩
theorem del_ok (l : List (List UInt8)) (i j : Int) (r : List (List UInt8)) (hr : T_slices_Delete___string_string_ (l, i, j) = some r) :
    Ok Try.prog 82 [.sl true 1 (l.map (ET.enc .str)), .lit (.int .i64 i), .lit (.int .i64 j)] fun v outs => v = .sl true 1 (r.map (ET.enc .str)) ∧ Outs [] [] outs := by
  unfold T_slices_Delete___string_string_ at hr
  split at hr <;> try (cases hr; done)
  rename_i hc
  obtain ⟨h0, h1, h2, h3⟩ := hc
  simp only [Option.some.injEq] at hr
  simp only at h0 h1 h2 h3
  obtain ⟨i, rfl⟩ := Int.eq_ofNat_of_zero_le h1
  obtain ⟨j, rfl⟩ := Int.eq_ofNat_of_zero_le (Int.le_trans h1 h2)
  simp only [Int.toNat_natCast] at hr
  have hij : i ≤ j := by omega
  have hj : j ≤ l.length := by omega
  intro w S O vals hOS hOl hSl hrl
  obtain ⟨u, ur, F1, F2, rfl, l1, l2, d12, hu, hr2⟩ := hrl
  obtain ⟨ui, ur', F3, F4, rfl, l3, l4, d34, hui, hr3⟩ := hr2
  obtain ⟨uj, ur'', F5, F6, rfl, l5, l6, d56, huj, hr4⟩ := hr3
  simp only [RV] at hui huj
  simp only [RL] at hr4
  subst hui; subst huj; subst hr4
  obtain ⟨a, cap, rfl, ⟨hcap, hcm⟩, hs⟩ := hu
  rw [List.length_map] at hcap
  rcases hs with ⟨he, ho⟩ | ⟨_, he, _⟩ | ⟨b, o, uss, rfl, hl, hcell, hO, _, hrll⟩
  · cases ho
  · have : l = [] := by simpa using he
    subst this; simp at h0
  rw [List.length_map] at hcell
  have huss := rll_str hrll
  have hown := hO rfl
  simp only [Nat.mul_one] at hown hcell
  have hH : Holds encStr w b o l.toArray := by
    intro k hk
    have hk' : k < l.length := by simpa using hk
    refine ⟨?_, (hown k (by omega)).2.2⟩
    have := hcell k 0 hk' (by omega)
    simp only [Nat.add_zero] at this
    rw [this, huss, List.getElem?_map, List.getElem?_eq_getElem hk']
    simp [hk']
  have hcall := Any.slices_Delete_string delLays b o cap i j l w hH hcap hcm hij hj
  have hmap : (List.map (ET.enc .str) l).length = l.length := by simp
  rw [hmap]
  refine Calls.mono (show Calls Try.prog 82 _ w _ from hcall) ?_
  rintro e w' ⟨rfl, q, rfl⟩
  have hsz : (l.take i ++ l.drop j ++ List.replicate (j - i) ([] : List UInt8)).toArray.size = l.toArray.size := by
    simp only [List.size_toArray, List.length_append, List.length_take, List.length_drop, List.length_replicate]; omega
  have hszl : (l.take i ++ l.drop j ++ List.replicate (j - i) ([] : List UInt8)).toArray.size = l.length := by rw [hsz]; simp
  have hH' : Holds encStr (Sort.ahead w q) b o l.toArray := hH
  have hpres : Pres O w (putRow encStr (Sort.ahead w q) b o (l.take i ++ l.drop j ++ List.replicate (j - i) []).toArray) :=
    pres_putRow w q b o _ O (fun k hk => l1 _ _ (hown k (by omega)).1)
  generalize hdd : (l.take i ++ l.drop j ++ List.replicate (j - i) ([] : List UInt8)).toArray = dd at *
  have hlen : (l.take i ++ l.drop j).length = l.length - (j - i) := by
    simp only [List.length_append, List.length_take, List.length_drop]; omega
  have hsub : r = l.take i ++ l.drop j := hr.symm
  have hF1b : ∀ b x, F1 b x → b < w.heap.size := fun b x hx => hOl b x (l1 _ _ hx)
  refine ⟨⟨_, .sl true 1 (r.map (ET.enc .str)), [.hole, .lit (.int .i64 i), .lit (.int .i64 j)], S, F1, CS.none, rfl, ⟨?_, ?_⟩, CS.le.refl _, (CS.none_dj _).symm, ?_, CS.none_dj _, ?_, ?_, hpres, ?_, ?_⟩⟩
  · rfl
  · intro a b c h; simp at h
  · intro b x h1 h2; exact hOS b x (l1 _ _ h1) h2
  · refine ⟨some ⟨b, o, none⟩, cap, ?_, ⟨?_, hcm⟩, .inr (.inr ⟨b, o, r.map fun s => [encStr s], rfl, ?_, ?_, ?_, ?_, ?_⟩)⟩
    · rw [List.length_map, hsub, hlen]
    · rw [List.length_map, hsub, hlen]; omega
    · intro e he
      simp only [List.mem_map] at he
      obtain ⟨s, _, rfl⟩ := he
      rfl
    · intro k m hk hm
      have hm0 : m = 0 := by omega
      subst hm0
      rw [List.length_map, hsub, hlen] at hk
      have := cell?_putRow encStr (Sort.ahead w q) b o l.toArray dd hH' hsz k (by omega)
      simp only [Nat.mul_one, Nat.add_zero]
      rw [this, List.getElem?_map]
      have hk2 : k < (l.take i ++ l.drop j).length := by omega
      rw [hsub, List.getElem?_eq_getElem hk2]
      simp only [Option.map_some, Option.bind_some, List.getElem?_cons_zero, Option.some.injEq]
      congr 1
      rw [← hdd]
      rw [getElem!_pos _ k (by rw [hdd]; omega)]
      simp only [List.getElem_toArray]
      rw [List.getElem_append_left hk2]
    · intro _ x hx
      obtain ⟨g1, g2, g3⟩ := hown x (by omega)
      refine ⟨g1, ?_, ?_⟩
      · by_cases hx2 : x < l.length
        · rw [cell?_putRow encStr (Sort.ahead w q) b o l.toArray dd hH' hsz x (by omega)]; rfl
        · rw [cell?_putRow_other _ _ _ _ _ _ (.inr (.inr (by simp only; omega)))]; exact g2
      · rw [frozen?_putRow]; exact g3
    · intro h; cases h
    · exact str_rll _ _ _ _ _
  · exact ⟨_, _, CS.none, CS.none, rfl, CS.le.refl _, CS.le.refl _, CS.none_dj _, trivial, _, _, CS.none, CS.none, rfl, CS.le.refl _, CS.le.refl _, CS.none_dj _, rfl, _, _, CS.none, CS.none, rfl, CS.le.refl _, CS.le.refl _, CS.none_dj _, rfl, rfl⟩
  · intro b x hx
    rcases hx with hx | hx
    · exact ⟨.inl (l1 _ _ hx), by rw [size_putRow]; exact hF1b _ _ hx⟩
    · exact hx.elim
  · intro b x hx
    exact ⟨.inl hx, by rw [size_putRow]; exact hSl _ _ hx⟩
theorem ok_slices_Delete___string_string_ : FnOk Try.prog fn_slices_Delete___string_string_ := fun x r hr => del_ok x.1 x.2.1 x.2.2 r hr
end Xs
end Ytfepabohinkpgaa
end Go.Proofs
