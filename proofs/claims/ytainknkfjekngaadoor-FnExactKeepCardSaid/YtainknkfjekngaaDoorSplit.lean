/- strings.Split at a separator of one byte, as the machine needs it. -/
import Derived.Test.YtainknkfjekngaaDoorT7
import Derived.Test.YtainknkfjekngaaDoorProg
import Derived.KernelRfl
import Derived.Shelf.Strings.Split
namespace Go.Proofs
open Go Go.Shelf Go.RowKit
namespace YtainknkfjekngaaDoor
open Vm
namespace Xs
set_option linter.unusedVariables false
set_option linter.unusedSimpArgs false
def spRen : Ren := ⟨fun | 0 => 0 | 1 => 1 | 2 => 2 | 107 => 28 | 108 => 47 | 129 => 100 | 138 => 71 | 143 => 72 | 146 => 44 | 171 => 73 | 195 => 79 | 197 => 80 | 217 => 87 | 218 => 81 | 219 => 82 | 221 => 62 | 224 => 89 | 225 => 88 | 243 => 83 | 246 => 91 | 260 => 86 | 266 => 93 | 267 => 90 | 268 => 70 | 283 => 95 | 284 => 96 | 285 => 97 | 286 => 98 | 308 => 74 | 314 => 94 | 317 => 99 | 318 => 101 | 319 => 102 | 320 => 103 | 336 => 84 | 337 => 104 | 338 => 105 | 347 => 106 | 348 => 107 | 349 => 108 | 350 => 109 | 351 => 110 | 352 => 111 | 353 => 112 | 354 => 113 | 355 => 114 | 356 => 115 | 357 => 116 | 358 => 117 | 359 => 118 | 360 => 119 | 361 => 120 | 366 => 121 | 367 => 129 | n => n, fun | 0 => 0 | 1 => 1 | 2 => 2 | 3 => 3 | 4 => 4 | 5 => 5 | 6 => 6 | 7 => 7 | 8 => 8 | 9 => 9 | 10 => 10 | 11 => 11 | 12 => 12 | 13 => 13 | 14 => 14 | 15 => 15 | 16 => 16 | 17 => 17 | 18 => 18 | 19 => 19 | 20 => 20 | 21 => 21 | 22 => 52 | 27 => 84 | 28 => 25 | 29 => 47 | 30 => 36 | 31 => 42 | 34 => 34 | 37 => 80 | 46 => 85 | 47 => 112 | 51 => 99 | 52 => 113 | 53 => 103 | 54 => 104 | 55 => 91 | 61 => 67 | 80 => 116 | 81 => 122 | 83 => 72 | 84 => 93 | 100 => 94 | 101 => 79 | 102 => 63 | 103 => 88 | 104 => 61 | 105 => 89 | 106 => 90 | 111 => 111 | 113 => 78 | 114 => 92 | 119 => 95 | 127 => 126 | 131 => 68 | 137 => 96 | 138 => 97 | 139 => 98 | 146 => 100 | 150 => 83 | 151 => 101 | 164 => 131 | 171 => 102 | 172 => 105 | 173 => 106 | 174 => 107 | 211 => 108 | 212 => 109 | 213 => 110 | 232 => 114 | 233 => 115 | 238 => 117 | 239 => 118 | 240 => 119 | 241 => 120 | 242 => 121 | 243 => 123 | 244 => 124 | 245 => 125 | 246 => 127 | 247 => 128 | 248 => 129 | 249 => 130 | n => n, fun | 1 => 0 | 3 => 1 | 4 => 2 | 17 => 3 | 18 => 4 | 19 => 5 | n => n⟩
theorem lay_Lays_n146 : Lays.n146 Tryd.prog spRen where
  mixed := by kernel_rfl
  f138 := Tryd.func71.trans (congrArg some (by kernel_rfl))
  f143 := Tryd.func72.trans (congrArg some (by kernel_rfl))
  f146 := Tryd.func44.trans (congrArg some (by kernel_rfl))
  f195 := Tryd.func79.trans (congrArg some (by kernel_rfl))
  f197 := Tryd.func80.trans (congrArg some (by kernel_rfl))
  f217 := Tryd.func87.trans (congrArg some (by kernel_rfl))
  f218 := Tryd.func81.trans (congrArg some (by kernel_rfl))
  f219 := Tryd.func82.trans (congrArg some (by kernel_rfl))
  f221 := Tryd.func62.trans (congrArg some (by kernel_rfl))
  f224 := Tryd.func89.trans (congrArg some (by kernel_rfl))
  f225 := Tryd.func88.trans (congrArg some (by kernel_rfl))
  f260 := Tryd.func86.trans (congrArg some (by kernel_rfl))
  f266 := Tryd.func93.trans (congrArg some (by kernel_rfl))
  f267 := Tryd.func90.trans (congrArg some (by kernel_rfl))
  f268 := Tryd.func70.trans (congrArg some (by kernel_rfl))
  f314 := Tryd.func94.trans (congrArg some (by kernel_rfl))
  t0 := Tryd.underlying0
  a0 := Tryd.isAgg0
  z0 := Tryd.sizeOf0
  v0 := Tryd.zeroValue0
  t3 := Tryd.underlying3
  a3 := Tryd.isAgg3
  z3 := Tryd.sizeOf3
  v3 := Tryd.zeroValue3
  t4 := Tryd.underlying4
  a4 := Tryd.isAgg4
  z4 := Tryd.sizeOf4
  v4 := Tryd.zeroValue4
  t5 := Tryd.underlying5
  a5 := Tryd.isAgg5
  z5 := Tryd.sizeOf5
  v5 := Tryd.zeroValue5
  t9 := Tryd.underlying9
  a9 := Tryd.isAgg9
  z9 := Tryd.sizeOf9
  v9 := Tryd.zeroValue9
  t21 := Tryd.underlying21
  a21 := Tryd.isAgg21
  z21 := Tryd.sizeOf21
  v21 := Tryd.zeroValue21
  t31 := Tryd.underlying42
  a31 := Tryd.isAgg42
  z31 := Tryd.sizeOf42
  v31 := Tryd.zeroValue42
  t46 := Tryd.underlying85
  a46 := Tryd.isAgg85
  z46 := Tryd.sizeOf85
  v46 := Tryd.zeroValue85
  t51 := Tryd.underlying99
  a51 := Tryd.isAgg99
  z51 := Tryd.sizeOf99
  v51 := Tryd.zeroValue99
  t105 := Tryd.underlying89
  a105 := Tryd.isAgg89
  z105 := Tryd.sizeOf89
  v105 := Tryd.zeroValue89
  t119 := Tryd.underlying95
  a119 := Tryd.isAgg95
  z119 := Tryd.sizeOf95
  t138 := Tryd.underlying97
  a138 := Tryd.isAgg97
  z138 := Tryd.sizeOf97
  v138 := Tryd.zeroValue97
  t139 := Tryd.underlying98
  a139 := Tryd.isAgg98
  z139 := Tryd.sizeOf98
  v139 := Tryd.zeroValue98
  t146 := Tryd.underlying100
  a146 := Tryd.isAgg100
  z146 := Tryd.sizeOf100
  v146 := Tryd.zeroValue100
  g1 := by kernel_rfl
  g3 := by kernel_rfl
  g4 := by kernel_rfl

theorem sp_rl {w : World} {S : CS} {A : AlSem} {s : List UInt8} {F : CS} : RL w S A (ET.enc .str s) [Value.string (ba s)] F := ⟨_, _, CS.none, CS.none, rfl, CS.none_le _, CS.none_le _, CS.none_dj _, rfl, rfl⟩
theorem sp_rll (w : World) (S : CS) (A : AlSem) : ∀ (l : List (List UInt8)) (F : CS), RLL w S A (l.map (ET.enc .str)) (l.map fun s => [Value.string (ba s)]) F
  | [], F => rfl
  | s :: l, F => ⟨_, _, CS.none, CS.none, rfl, CS.none_le _, CS.none_le _, CS.none_dj _, sp_rl, sp_rll w S A l _⟩
/-- A text parted where a byte stands, so many times. -/
def splK (c : UInt8) : Nat → List UInt8 → List (List UInt8)
  | 0, s => [s]
  | k + 1, s => if Lib.index s [c] == -1 then [s] else s.take (Lib.index s [c]).toNat :: splK c k (s.drop ((Lib.index s [c]).toNat + 1))
theorem ba_list (b : ByteArray) : ba b.data.toList = b := by obtain ⟨⟨l⟩⟩ := b; rfl
theorem ba_data (s : List UInt8) : (ba s).data.toList = s := rfl
theorem extract_take (s : ByteArray) (a : Nat) : (s.extract 0 a).data.toList = s.data.toList.take a := by
  simp [ByteArray.data_extract]
theorem splK_eq (c : UInt8) : ∀ (k : Nat) (s : List UInt8), Lib.splitB (ba [c]) 0 k (ba s) = (splK c k s).map ba
  | 0, s => rfl
  | k + 1, s => by
    rw [Lib.splitB, splK]
    show (if Lib.index s [c] == -1 then [ba s] else (ba s).extract 0 ((Lib.index s [c]).toNat + 0) :: Lib.splitB (ba [c]) 0 k ((ba s).extract ((Lib.index s [c]).toNat + 1) (ba s).size)) = _
    by_cases h : (Lib.index s [c] == -1) = true
    · rw [if_pos h, if_pos h]; rfl
    · rw [if_neg h, if_neg h, List.map_cons]
      have e1 : (ba s).extract 0 ((Lib.index s [c]).toNat + 0) = ba (s.take (Lib.index s [c]).toNat) := by
        rw [← ba_list ((ba s).extract _ _), extract_take, ba_data, Nat.add_zero]
      have e2 : (ba s).extract ((Lib.index s [c]).toNat + 1) (ba s).size = ba (s.drop ((Lib.index s [c]).toNat + 1)) := by
        rw [← ba_list ((ba s).extract _ _), Lib.extract_to_end, ba_data]
      rw [e1, e2, splK_eq c k]
def T_strings_Split : List UInt8 × List UInt8 → Option (List (List UInt8)) := fun x => match x.2 with
  | [c] => if x.1.length < 4294967281 then some (splK c (Lib.count x.1 [c]) x.1) else none
  | _ => none
def fn_strings_Split : TFn := ⟨44, [.cell .str, .cell .str], [], [.cell (.sl true .str)], [], T_strings_Split⟩
theorem maxLenG : ∃ g, Tryd.prog.globalNamed "internal/bytealg.MaxLen" = some g ∧ g = spRen.g 1 := ⟨spRen.g 1, by kernel_rfl, rfl⟩
theorem doorT2 : doorB Tryd.prog = true := by kernel_rfl
theorem split_ok (s t : List UInt8) (r : List (List UInt8)) (hr : T_strings_Split (s, t) = some r) :
    Ok Tryd.prog (spRen.f 146) [.lit (.string (ba s)), .lit (.string (ba t))] fun v outs => v = .sl true 1 (r.map (ET.enc .str)) ∧ Outs [] [] outs := by
  unfold T_strings_Split at hr
  split at hr <;> try (cases hr; done)
  rename_i c hc
  simp only at hc
  subst hc
  split at hr <;> try (cases hr; done)
  rename_i hs
  simp only at hs hr
  intro w S O vals htab hOS hOl hSl hrl
  obtain ⟨u, ur, F1, F2, rfl, l1, l2, d12, hu, hr2⟩ := hrl
  obtain ⟨ui, ur', F3, F4, rfl, l3, l4, d34, hui, hr3⟩ := hr2
  simp only [RV] at hu hui
  simp only [RL] at hr3
  subst hu; subst hui; subst hr3
  obtain ⟨g, hg, hge⟩ := maxLenG
  obtain ⟨_, _, v, h3, m, rfl⟩ := htab doorT2 _ _ (by exact List.mem_cons_of_mem _ (List.mem_cons_self ..)) g hg
  have hm : w.cell? ⟨(spRen.g 1), 0, none⟩ = some (.int .i64 m) := by
    rw [← hge]
    exact World.var?_cell hg h3 0
  have hsz : (ba s).size = s.length := by simp [ba, ByteArray.size]
  refine (Any.strings_Split lay_Lays_n146 (by kernel_rfl) (ba s) (ba [c]) m w (by rw [hsz]; exact hs) hm (by show 1 ≤ (ba [c]).size; exact Nat.le_refl 1)).mono ?_
  rintro e w' ⟨rfl, rfl⟩
  have hcnt : Lib.countB (ba s) (ba [c]) = Lib.count s [c] := rfl
  have hre : r = splK c (Lib.count s [c]) s := (Option.some.inj hr).symm
  have hcs : Lib.splitB (ba [c]) 0 (Lib.countB (ba s) (ba [c])) (ba s) = r.map ba := by rw [hcnt, splK_eq, hre]
  have hlen : r.length = Lib.countB (ba s) (ba [c]) + 1 := by
    have := Lib.splitB_all (ba [c]) (Nat.le_refl 1) 0 _ (ba s) rfl
    rw [hcs, List.length_map] at this
    exact this
  have hcl : Lib.count s [c] ≤ s.length := by
    have := Lib.countB_le (ba [c]) (Nat.le_refl 1) _ (ba s) (Nat.le_refl _)
    rw [hsz] at this; exact this
  rw [hcs, ← hlen]
  have hmap : (List.map Value.string (r.map ba)).toArray.size = r.length := by simp
  have hp : Pres CS.none w (w.alloc (.cells (List.map Value.string (r.map ba)).toArray (spRen.t 9))) := ⟨rfl, rfl, by show w.heap.size ≤ (w.heap.push _).size; rw [Array.size_push]; omega, fun b o h => ⟨o, by
    have := heap_lt h
    show (w.heap.push _)[b]? = some o
    rw [Array.getElem?_push_lt this, ← h, Array.getElem?_eq_getElem this], .inl rfl⟩⟩
  have hnew : (w.alloc (.cells (List.map Value.string (r.map ba)).toArray (spRen.t 9))).heap[w.heap.size]? = some (.cells (List.map Value.string (r.map ba)).toArray (spRen.t 9)) := by
    show (w.heap.push _)[w.heap.size]? = _
    rw [Array.getElem?_push_size]
  have hcell : ∀ k, k < r.length → (w.alloc (.cells (List.map Value.string (r.map ba)).toArray (spRen.t 9))).cell? ⟨w.heap.size, k, none⟩ = (r[k]?).map fun s => Value.string (ba s) := by
    intro k hk
    simp only [World.cell?, hnew]
    simp [hk]
  refine ⟨⟨_, .sl true 1 (r.map (ET.enc .str)), [.lit (.string (ba s)), .lit (.string (ba [c]))], S, fun b _ => b = w.heap.size, CS.none, rfl, ⟨rfl, ?_⟩, CS.le.refl _, (CS.none_dj _).symm, ?_, CS.none_dj _, ?_, ?_, hp.mono (fun b x _ h => h.elim), ?_, ?_⟩⟩
  · intro j i v h1 h2; simp at h1
  · rintro b x rfl h2
    exact absurd (hSl _ _ h2) (by omega)
  · refine ⟨some ⟨w.heap.size, 0, none⟩, r.length, ?_, ⟨?_, ?_⟩, .inr (.inr ⟨w.heap.size, 0, r.map fun s => [Value.string (ba s)], rfl, ?_, ?_, ?_, ?_, ?_⟩)⟩
    · rw [List.length_map]
    · rw [List.length_map]; omega
    · rw [hlen, hcnt]; omega
    · intro e he
      simp only [List.mem_map] at he
      obtain ⟨s, _, rfl⟩ := he
      rfl
    · intro k m hk hm
      have hm0 : m = 0 := by omega
      subst hm0
      rw [List.length_map] at hk
      simp only [Nat.mul_one, Nat.add_zero, Nat.zero_add]
      rw [hcell k hk, List.getElem?_map]
      cases r[k]? <;> rfl
    · intro _ x hx
      refine ⟨rfl, ?_, ?_⟩
      · simp only [Nat.mul_one, Nat.zero_add] at hx ⊢
        rw [hcell x hx, List.getElem?_eq_getElem hx]; rfl
      · exact ⟨_, _, hnew⟩
    · intro h; cases h
    · exact sp_rll _ _ _ _ _
  · exact ⟨_, _, CS.none, CS.none, rfl, CS.le.refl _, CS.le.refl _, CS.none_dj _, rfl, _, _, CS.none, CS.none, rfl, CS.le.refl _, CS.le.refl _, CS.none_dj _, rfl, rfl⟩
  · rintro k x (h | h)
    · subst h
      exact ⟨.inr (Nat.le_refl _), heap_lt hnew⟩
    · exact h.elim
  · intro k x h
    exact ⟨.inl h, Nat.lt_of_lt_of_le (hSl _ _ h) hp.size⟩
theorem ok_strings_Split : FnOk Tryd.prog fn_strings_Split := ⟨by kernel_rfl, fun x r hr => split_ok x.1 x.2 r hr⟩
end Xs
end YtainknkfjekngaaDoor
end Go.Proofs
