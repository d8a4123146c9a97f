/- strings.Split at a separator of one byte, as the machine needs it. -/
import Derived.Test.YtceeeagdjphbnaaDoorT7
import Derived.Test.YtceeeagdjphbnaaDoorProg
import Derived.KernelRfl
import Derived.Shelf.Strings.Split
namespace Go.Proofs
open Go Go.Shelf Go.RowKit
namespace YtceeeagdjphbnaaDoor
open Vm
namespace Xs
set_option linter.unusedVariables false
set_option linter.unusedSimpArgs false
def spRen : Ren := ⟨fun | 0 => 0 | 1 => 1 | 2 => 2 | 102 => 30 | 129 => 71 | 138 => 45 | 143 => 46 | 146 => 29 | 171 => 55 | 195 => 51 | 197 => 52 | 207 => 47 | 209 => 37 | 217 => 58 | 218 => 53 | 219 => 54 | 221 => 36 | 224 => 60 | 225 => 59 | 243 => 62 | 246 => 65 | 260 => 57 | 266 => 63 | 267 => 61 | 268 => 44 | 283 => 66 | 284 => 67 | 285 => 68 | 286 => 69 | 314 => 64 | 317 => 70 | 318 => 72 | 319 => 73 | 320 => 74 | 337 => 75 | 338 => 76 | 347 => 77 | 348 => 78 | 349 => 79 | 350 => 80 | 351 => 81 | 352 => 82 | 353 => 83 | 354 => 84 | 355 => 85 | 356 => 86 | 357 => 87 | 358 => 88 | 359 => 89 | 360 => 90 | 361 => 91 | 366 => 93 | 367 => 101 | n => n, fun | 0 => 0 | 1 => 1 | 2 => 2 | 3 => 3 | 4 => 4 | 5 => 5 | 6 => 6 | 7 => 7 | 8 => 8 | 9 => 9 | 10 => 10 | 11 => 11 | 12 => 12 | 13 => 13 | 14 => 14 | 15 => 15 | 16 => 16 | 17 => 17 | 18 => 18 | 19 => 19 | 20 => 20 | 21 => 21 | 22 => 70 | 23 => 58 | 27 => 69 | 28 => 35 | 30 => 51 | 31 => 31 | 34 => 62 | 37 => 63 | 46 => 78 | 47 => 96 | 51 => 83 | 52 => 97 | 53 => 88 | 54 => 89 | 55 => 76 | 61 => 57 | 68 => 32 | 80 => 100 | 81 => 106 | 83 => 52 | 84 => 86 | 103 => 73 | 104 => 30 | 105 => 74 | 106 => 75 | 111 => 71 | 113 => 64 | 114 => 77 | 119 => 79 | 127 => 110 | 131 => 53 | 137 => 80 | 138 => 81 | 139 => 82 | 146 => 84 | 150 => 68 | 151 => 85 | 164 => 116 | 171 => 87 | 172 => 90 | 173 => 91 | 174 => 92 | 211 => 93 | 212 => 94 | 213 => 95 | 232 => 98 | 233 => 99 | 238 => 101 | 239 => 102 | 240 => 103 | 241 => 104 | 242 => 105 | 243 => 107 | 244 => 108 | 245 => 109 | 246 => 111 | 247 => 112 | 248 => 113 | 249 => 114 | n => n, fun | 1 => 0 | 3 => 1 | 4 => 2 | 17 => 3 | 18 => 4 | 19 => 5 | n => n⟩
theorem lay_Lays_n146 : Lays.n146 Tryd.prog spRen where
  mixed := by kernel_rfl
  f138 := Tryd.func45.trans (congrArg some (by kernel_rfl))
  f143 := Tryd.func46.trans (congrArg some (by kernel_rfl))
  f146 := Tryd.func29.trans (congrArg some (by kernel_rfl))
  f195 := Tryd.func51.trans (congrArg some (by kernel_rfl))
  f197 := Tryd.func52.trans (congrArg some (by kernel_rfl))
  f217 := Tryd.func58.trans (congrArg some (by kernel_rfl))
  f218 := Tryd.func53.trans (congrArg some (by kernel_rfl))
  f219 := Tryd.func54.trans (congrArg some (by kernel_rfl))
  f221 := Tryd.func36.trans (congrArg some (by kernel_rfl))
  f224 := Tryd.func60.trans (congrArg some (by kernel_rfl))
  f225 := Tryd.func59.trans (congrArg some (by kernel_rfl))
  f260 := Tryd.func57.trans (congrArg some (by kernel_rfl))
  f266 := Tryd.func63.trans (congrArg some (by kernel_rfl))
  f267 := Tryd.func61.trans (congrArg some (by kernel_rfl))
  f268 := Tryd.func44.trans (congrArg some (by kernel_rfl))
  f314 := Tryd.func64.trans (congrArg some (by kernel_rfl))
  t0 := Tryd.underlying0
  a0 := Tryd.isAgg0
  z0 := Tryd.sizeOf0
  v0 := Tryd.zeroValue0
  t3 := Tryd.underlying3
  a3 := Tryd.isAgg3
  z3 := Tryd.sizeOf3
  v3 := Tryd.zeroValue3
  t4 := Tryd.underlying4
  a4 := Tryd.isAgg4
  z4 := Tryd.sizeOf4
  v4 := Tryd.zeroValue4
  t5 := Tryd.underlying5
  a5 := Tryd.isAgg5
  z5 := Tryd.sizeOf5
  v5 := Tryd.zeroValue5
  t9 := Tryd.underlying9
  a9 := Tryd.isAgg9
  z9 := Tryd.sizeOf9
  v9 := Tryd.zeroValue9
  t21 := Tryd.underlying21
  a21 := Tryd.isAgg21
  z21 := Tryd.sizeOf21
  v21 := Tryd.zeroValue21
  t31 := Tryd.underlying31
  a31 := Tryd.isAgg31
  z31 := Tryd.sizeOf31
  v31 := Tryd.zeroValue31
  t46 := Tryd.underlying78
  a46 := Tryd.isAgg78
  z46 := Tryd.sizeOf78
  v46 := Tryd.zeroValue78
  t51 := Tryd.underlying83
  a51 := Tryd.isAgg83
  z51 := Tryd.sizeOf83
  v51 := Tryd.zeroValue83
  t105 := Tryd.underlying74
  a105 := Tryd.isAgg74
  z105 := Tryd.sizeOf74
  v105 := Tryd.zeroValue74
  t119 := Tryd.underlying79
  a119 := Tryd.isAgg79
  z119 := Tryd.sizeOf79
  t138 := Tryd.underlying81
  a138 := Tryd.isAgg81
  z138 := Tryd.sizeOf81
  v138 := Tryd.zeroValue81
  t139 := Tryd.underlying82
  a139 := Tryd.isAgg82
  z139 := Tryd.sizeOf82
  v139 := Tryd.zeroValue82
  t146 := Tryd.underlying84
  a146 := Tryd.isAgg84
  z146 := Tryd.sizeOf84
  v146 := Tryd.zeroValue84
  g1 := by kernel_rfl
  g3 := by kernel_rfl
  g4 := by kernel_rfl

theorem sp_rl {w : World} {S : CS} {A : AlSem} {s : List UInt8} {F : CS} : RL w S A (ET.enc .str s) [Value.string (ba s)] F := ⟨_, _, CS.none, CS.none, rfl, CS.none_le _, CS.none_le _, CS.none_dj _, rfl, rfl⟩
theorem sp_rll (w : World) (S : CS) (A : AlSem) : ∀ (l : List (List UInt8)) (F : CS), RLL w S A (l.map (ET.enc .str)) (l.map fun s => [Value.string (ba s)]) F
  | [], F => rfl
  | s :: l, F => ⟨_, _, CS.none, CS.none, rfl, CS.none_le _, CS.none_le _, CS.none_dj _, sp_rl, sp_rll w S A l _⟩
/-- A text parted where a byte stands, so many times. -/
def splK (c : UInt8) : Nat → List UInt8 → List (List UInt8)
  | 0, s => [s]
  | k + 1, s => if Lib.index s [c] == -1 then [s] else s.take (Lib.index s [c]).toNat :: splK c k (s.drop ((Lib.index s [c]).toNat + 1))
theorem ba_list (b : ByteArray) : ba b.data.toList = b := by obtain ⟨⟨l⟩⟩ := b; rfl
theorem ba_data (s : List UInt8) : (ba s).data.toList = s := rfl
theorem extract_take (s : ByteArray) (a : Nat) : (s.extract 0 a).data.toList = s.data.toList.take a := by
  simp [ByteArray.data_extract]
theorem splK_eq (c : UInt8) : ∀ (k : Nat) (s : List UInt8), Lib.splitB (ba [c]) 0 k (ba s) = (splK c k s).map ba
  | 0, s => rfl
  | k + 1, s => by
    rw [Lib.splitB, splK]
    show (if Lib.index s [c] == -1 then [ba s] else (ba s).extract 0 ((Lib.index s [c]).toNat + 0) :: Lib.splitB (ba [c]) 0 k ((ba s).extract ((Lib.index s [c]).toNat + 1) (ba s).size)) = _
    by_cases h : (Lib.index s [c] == -1) = true
    · rw [if_pos h, if_pos h]; rfl
    · rw [if_neg h, if_neg h, List.map_cons]
      have e1 : (ba s).extract 0 ((Lib.index s [c]).toNat + 0) = ba (s.take (Lib.index s [c]).toNat) := by
        rw [← ba_list ((ba s).extract _ _), extract_take, ba_data, Nat.add_zero]
      have e2 : (ba s).extract ((Lib.index s [c]).toNat + 1) (ba s).size = ba (s.drop ((Lib.index s [c]).toNat + 1)) := by
        rw [← ba_list ((ba s).extract _ _), Lib.extract_to_end, ba_data]
      rw [e1, e2, splK_eq c k]
def T_strings_Split : List UInt8 × List UInt8 → Option (List (List UInt8)) := fun x => match x.2 with
  | [c] => if x.1.length < 4294967281 then some (splK c (Lib.count x.1 [c]) x.1) else none
  | _ => none
def fn_strings_Split : TFn := ⟨29, [.cell .str, .cell .str], [], [.cell (.sl true .str)], [], T_strings_Split⟩
theorem maxLenG : ∃ g, Tryd.prog.globalNamed "internal/bytealg.MaxLen" = some g ∧ g = spRen.g 1 := ⟨spRen.g 1, by kernel_rfl, rfl⟩
theorem doorT2 : doorB Tryd.prog = true := by kernel_rfl
theorem split_ok (s t : List UInt8) (r : List (List UInt8)) (hr : T_strings_Split (s, t) = some r) :
    Ok Tryd.prog (spRen.f 146) [.lit (.string (ba s)), .lit (.string (ba t))] fun v outs => v = .sl true 1 (r.map (ET.enc .str)) ∧ Outs [] [] outs := by
  unfold T_strings_Split at hr
  split at hr <;> try (cases hr; done)
  rename_i c hc
  simp only at hc
  subst hc
  split at hr <;> try (cases hr; done)
  rename_i hs
  simp only at hs hr
  intro w S O vals htab hOS hOl hSl hrl
  obtain ⟨u, ur, F1, F2, rfl, l1, l2, d12, hu, hr2⟩ := hrl
  obtain ⟨ui, ur', F3, F4, rfl, l3, l4, d34, hui, hr3⟩ := hr2
  simp only [RV] at hu hui
  simp only [RL] at hr3
  subst hu; subst hui; subst hr3
  obtain ⟨g, hg, hge⟩ := maxLenG
  obtain ⟨_, _, v, h3, m, rfl⟩ := htab doorT2 _ _ (by exact List.mem_cons_of_mem _ (List.mem_cons_self ..)) g hg
  have hm : w.cell? ⟨(spRen.g 1), 0, none⟩ = some (.int .i64 m) := by
    rw [← hge]
    exact World.var?_cell hg h3 0
  have hsz : (ba s).size = s.length := by simp [ba, ByteArray.size]
  refine (Any.strings_Split lay_Lays_n146 (by kernel_rfl) (ba s) (ba [c]) m w (by rw [hsz]; exact hs) hm (by show 1 ≤ (ba [c]).size; exact Nat.le_refl 1)).mono ?_
  rintro e w' ⟨rfl, rfl⟩
  have hcnt : Lib.countB (ba s) (ba [c]) = Lib.count s [c] := rfl
  have hre : r = splK c (Lib.count s [c]) s := (Option.some.inj hr).symm
  have hcs : Lib.splitB (ba [c]) 0 (Lib.countB (ba s) (ba [c])) (ba s) = r.map ba := by rw [hcnt, splK_eq, hre]
  have hlen : r.length = Lib.countB (ba s) (ba [c]) + 1 := by
    have := Lib.splitB_all (ba [c]) (Nat.le_refl 1) 0 _ (ba s) rfl
    rw [hcs, List.length_map] at this
    exact this
  have hcl : Lib.count s [c] ≤ s.length := by
    have := Lib.countB_le (ba [c]) (Nat.le_refl 1) _ (ba s) (Nat.le_refl _)
    rw [hsz] at this; exact this
  rw [hcs, ← hlen]
  have hmap : (List.map Value.string (r.map ba)).toArray.size = r.length := by simp
  have hp : Pres CS.none w (w.alloc (.cells (List.map Value.string (r.map ba)).toArray (spRen.t 9))) := ⟨rfl, rfl, by show w.heap.size ≤ (w.heap.push _).size; rw [Array.size_push]; omega, fun b o h => ⟨o, by
    have := heap_lt h
    show (w.heap.push _)[b]? = some o
    rw [Array.getElem?_push_lt this, ← h, Array.getElem?_eq_getElem this], .inl rfl⟩⟩
  have hnew : (w.alloc (.cells (List.map Value.string (r.map ba)).toArray (spRen.t 9))).heap[w.heap.size]? = some (.cells (List.map Value.string (r.map ba)).toArray (spRen.t 9)) := by
    show (w.heap.push _)[w.heap.size]? = _
    rw [Array.getElem?_push_size]
  have hcell : ∀ k, k < r.length → (w.alloc (.cells (List.map Value.string (r.map ba)).toArray (spRen.t 9))).cell? ⟨w.heap.size, k, none⟩ = (r[k]?).map fun s => Value.string (ba s) := by
    intro k hk
    simp only [World.cell?, hnew]
    simp [hk]
  refine ⟨⟨_, .sl true 1 (r.map (ET.enc .str)), [.lit (.string (ba s)), .lit (.string (ba [c]))], S, fun b _ => b = w.heap.size, CS.none, rfl, ⟨rfl, ?_⟩, CS.le.refl _, (CS.none_dj _).symm, ?_, CS.none_dj _, ?_, ?_, hp.mono (fun b x _ h => h.elim), ?_, ?_⟩⟩
  · intro j i v h1 h2; simp at h1
  · rintro b x rfl h2
    exact absurd (hSl _ _ h2) (by omega)
  · refine ⟨some ⟨w.heap.size, 0, none⟩, r.length, ?_, ⟨?_, ?_⟩, .inr (.inr ⟨w.heap.size, 0, r.map fun s => [Value.string (ba s)], rfl, ?_, ?_, ?_, ?_, ?_⟩)⟩
    · rw [List.length_map]
    · rw [List.length_map]; omega
    · rw [hlen, hcnt]; omega
    · intro e he
      simp only [List.mem_map] at he
      obtain ⟨s, _, rfl⟩ := he
      rfl
    · intro k m hk hm
      have hm0 : m = 0 := by omega
      subst hm0
      rw [List.length_map] at hk
      simp only [Nat.mul_one, Nat.add_zero, Nat.zero_add]
      rw [hcell k hk, List.getElem?_map]
      cases r[k]? <;> rfl
    · intro _ x hx
      refine ⟨rfl, ?_, ?_⟩
      · simp only [Nat.mul_one, Nat.zero_add] at hx ⊢
        rw [hcell x hx, List.getElem?_eq_getElem hx]; rfl
      · exact ⟨_, _, hnew⟩
    · intro h; cases h
    · exact sp_rll _ _ _ _ _
  · exact ⟨_, _, CS.none, CS.none, rfl, CS.le.refl _, CS.le.refl _, CS.none_dj _, rfl, _, _, CS.none, CS.none, rfl, CS.le.refl _, CS.le.refl _, CS.none_dj _, rfl, rfl⟩
  · rintro k x (h | h)
    · subst h
      exact ⟨.inr (Nat.le_refl _), heap_lt hnew⟩
    · exact h.elim
  · intro k x h
    exact ⟨.inl h, Nat.lt_of_lt_of_le (hSl _ _ h) hp.size⟩
theorem ok_strings_Split : FnOk Tryd.prog fn_strings_Split := ⟨by kernel_rfl, fun x r hr => split_ok x.1 x.2 r hr⟩
end Xs
end YtceeeagdjphbnaaDoor
end Go.Proofs
