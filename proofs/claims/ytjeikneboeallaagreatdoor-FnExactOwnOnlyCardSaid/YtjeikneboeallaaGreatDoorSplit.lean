/- strings.Split at a separator of one byte, as the machine needs it. -/
import Derived.Test.YtjeikneboeallaaGreatDoorT7
import Derived.Test.YtjeikneboeallaaGreatDoorProg
import Derived.KernelRfl
import Derived.Shelf.Strings.Split
namespace Go.Proofs
open Go Go.Shelf Go.RowKit
namespace YtjeikneboeallaaGreatDoor
open Vm
namespace Xs
set_option linter.unusedVariables false
set_option linter.unusedSimpArgs false
def spRen : Ren := ⟨fun | 0 => 0 | 1 => 1 | 2 => 2 | 129 => 142 | 138 => 139 | 143 => 140 | 146 => 129 | 171 => 115 | 195 => 146 | 197 => 147 | 217 => 153 | 218 => 148 | 219 => 149 | 221 => 133 | 224 => 155 | 225 => 154 | 243 => 128 | 246 => 132 | 260 => 152 | 266 => 157 | 267 => 156 | 268 => 138 | 283 => 134 | 284 => 135 | 285 => 136 | 286 => 137 | 314 => 158 | 317 => 141 | 318 => 143 | 319 => 144 | 320 => 145 | 337 => 150 | 338 => 151 | 347 => 159 | 348 => 160 | 349 => 161 | 350 => 162 | 351 => 163 | 352 => 164 | 353 => 165 | 354 => 166 | 355 => 167 | 356 => 168 | 357 => 169 | 358 => 170 | 359 => 171 | 360 => 172 | 361 => 173 | 366 => 177 | 367 => 185 | n => n, fun | 0 => 0 | 1 => 1 | 2 => 2 | 3 => 3 | 4 => 4 | 5 => 5 | 6 => 6 | 7 => 7 | 8 => 8 | 9 => 9 | 10 => 10 | 11 => 11 | 12 => 12 | 13 => 13 | 14 => 14 | 15 => 15 | 16 => 16 | 17 => 17 | 18 => 18 | 19 => 19 | 20 => 20 | 21 => 21 | 24 => 97 | 27 => 233 | 28 => 30 | 30 => 51 | 31 => 54 | 34 => 75 | 37 => 155 | 46 => 239 | 47 => 240 | 51 => 236 | 52 => 245 | 53 => 227 | 54 => 228 | 55 => 244 | 61 => 220 | 69 => 153 | 80 => 71 | 81 => 114 | 83 => 100 | 84 => 224 | 101 => 190 | 102 => 177 | 103 => 241 | 104 => 99 | 105 => 242 | 106 => 243 | 111 => 238 | 113 => 225 | 114 => 182 | 119 => 248 | 127 => 262 | 131 => 221 | 137 => 249 | 138 => 250 | 139 => 251 | 146 => 252 | 150 => 232 | 151 => 253 | 164 => 267 | 171 => 226 | 172 => 229 | 173 => 230 | 174 => 231 | 211 => 234 | 212 => 235 | 213 => 237 | 232 => 246 | 233 => 247 | 238 => 254 | 239 => 255 | 240 => 256 | 241 => 257 | 242 => 258 | 243 => 259 | 244 => 260 | 245 => 261 | 246 => 263 | 247 => 264 | 248 => 265 | 249 => 266 | n => n, fun | 1 => 1 | 3 => 4 | 4 => 5 | 17 => 0 | 18 => 2 | 19 => 3 | n => n⟩
theorem lay_Lays_n146 : Lays.n146 Tryz.prog spRen where
  mixed := by kernel_rfl
  f138 := Tryz.func139.trans (congrArg some (by kernel_rfl))
  f143 := Tryz.func140.trans (congrArg some (by kernel_rfl))
  f146 := Tryz.func129.trans (congrArg some (by kernel_rfl))
  f195 := Tryz.func146.trans (congrArg some (by kernel_rfl))
  f197 := Tryz.func147.trans (congrArg some (by kernel_rfl))
  f217 := Tryz.func153.trans (congrArg some (by kernel_rfl))
  f218 := Tryz.func148.trans (congrArg some (by kernel_rfl))
  f219 := Tryz.func149.trans (congrArg some (by kernel_rfl))
  f221 := Tryz.func133.trans (congrArg some (by kernel_rfl))
  f224 := Tryz.func155.trans (congrArg some (by kernel_rfl))
  f225 := Tryz.func154.trans (congrArg some (by kernel_rfl))
  f260 := Tryz.func152.trans (congrArg some (by kernel_rfl))
  f266 := Tryz.func157.trans (congrArg some (by kernel_rfl))
  f267 := Tryz.func156.trans (congrArg some (by kernel_rfl))
  f268 := Tryz.func138.trans (congrArg some (by kernel_rfl))
  f314 := Tryz.func158.trans (congrArg some (by kernel_rfl))
  t0 := Tryz.underlying0
  a0 := Tryz.isAgg0
  z0 := Tryz.sizeOf0
  v0 := Tryz.zeroValue0
  t3 := Tryz.underlying3
  a3 := Tryz.isAgg3
  z3 := Tryz.sizeOf3
  v3 := Tryz.zeroValue3
  t4 := Tryz.underlying4
  a4 := Tryz.isAgg4
  z4 := Tryz.sizeOf4
  v4 := Tryz.zeroValue4
  t5 := Tryz.underlying5
  a5 := Tryz.isAgg5
  z5 := Tryz.sizeOf5
  v5 := Tryz.zeroValue5
  t9 := Tryz.underlying9
  a9 := Tryz.isAgg9
  z9 := Tryz.sizeOf9
  v9 := Tryz.zeroValue9
  t21 := Tryz.underlying21
  a21 := Tryz.isAgg21
  z21 := Tryz.sizeOf21
  v21 := Tryz.zeroValue21
  t31 := Tryz.underlying54
  a31 := Tryz.isAgg54
  z31 := Tryz.sizeOf54
  v31 := Tryz.zeroValue54
  t46 := Tryz.underlying239
  a46 := Tryz.isAgg239
  z46 := Tryz.sizeOf239
  v46 := Tryz.zeroValue239
  t51 := Tryz.underlying236
  a51 := Tryz.isAgg236
  z51 := Tryz.sizeOf236
  v51 := Tryz.zeroValue236
  t105 := Tryz.underlying242
  a105 := Tryz.isAgg242
  z105 := Tryz.sizeOf242
  v105 := Tryz.zeroValue242
  t119 := Tryz.underlying248
  a119 := Tryz.isAgg248
  z119 := Tryz.sizeOf248
  t138 := Tryz.underlying250
  a138 := Tryz.isAgg250
  z138 := Tryz.sizeOf250
  v138 := Tryz.zeroValue250
  t139 := Tryz.underlying251
  a139 := Tryz.isAgg251
  z139 := Tryz.sizeOf251
  v139 := Tryz.zeroValue251
  t146 := Tryz.underlying252
  a146 := Tryz.isAgg252
  z146 := Tryz.sizeOf252
  v146 := Tryz.zeroValue252
  g1 := by kernel_rfl
  g3 := by kernel_rfl
  g4 := by kernel_rfl

theorem sp_rl {w : World} {S : CS} {A : AlSem} {s : List UInt8} {F : CS} : RL w S A (ET.enc .str s) [Value.string (ba s)] F := ⟨_, _, CS.none, CS.none, rfl, CS.none_le _, CS.none_le _, CS.none_dj _, rfl, rfl⟩
theorem sp_rll (w : World) (S : CS) (A : AlSem) : ∀ (l : List (List UInt8)) (F : CS), RLL w S A (l.map (ET.enc .str)) (l.map fun s => [Value.string (ba s)]) F
  | [], F => rfl
  | s :: l, F => ⟨_, _, CS.none, CS.none, rfl, CS.none_le _, CS.none_le _, CS.none_dj _, sp_rl, sp_rll w S A l _⟩
/-- A text parted where a byte stands, so many times. -/
def splK (c : UInt8) : Nat → List UInt8 → List (List UInt8)
  | 0, s => [s]
  | k + 1, s => if Lib.index s [c] == -1 then [s] else s.take (Lib.index s [c]).toNat :: splK c k (s.drop ((Lib.index s [c]).toNat + 1))
theorem ba_list (b : ByteArray) : ba b.data.toList = b := by obtain ⟨⟨l⟩⟩ := b; rfl
theorem ba_data (s : List UInt8) : (ba s).data.toList = s := rfl
theorem extract_take (s : ByteArray) (a : Nat) : (s.extract 0 a).data.toList = s.data.toList.take a := by
  simp [ByteArray.data_extract]
theorem splK_eq (c : UInt8) : ∀ (k : Nat) (s : List UInt8), Lib.splitB (ba [c]) 0 k (ba s) = (splK c k s).map ba
  | 0, s => rfl
  | k + 1, s => by
    rw [Lib.splitB, splK]
    show (if Lib.index s [c] == -1 then [ba s] else (ba s).extract 0 ((Lib.index s [c]).toNat + 0) :: Lib.splitB (ba [c]) 0 k ((ba s).extract ((Lib.index s [c]).toNat + 1) (ba s).size)) = _
    by_cases h : (Lib.index s [c] == -1) = true
    · rw [if_pos h, if_pos h]; rfl
    · rw [if_neg h, if_neg h, List.map_cons]
      have e1 : (ba s).extract 0 ((Lib.index s [c]).toNat + 0) = ba (s.take (Lib.index s [c]).toNat) := by
        rw [← ba_list ((ba s).extract _ _), extract_take, ba_data, Nat.add_zero]
      have e2 : (ba s).extract ((Lib.index s [c]).toNat + 1) (ba s).size = ba (s.drop ((Lib.index s [c]).toNat + 1)) := by
        rw [← ba_list ((ba s).extract _ _), Lib.extract_to_end, ba_data]
      rw [e1, e2, splK_eq c k]
def T_strings_Split : List UInt8 × List UInt8 → Option (List (List UInt8)) := fun x => match x.2 with
  | [c] => if x.1.length < 4294967281 then some (splK c (Lib.count x.1 [c]) x.1) else none
  | _ => none
def fn_strings_Split : TFn := ⟨129, [.cell .str, .cell .str], [], [.cell (.sl true .str)], [], T_strings_Split⟩
theorem maxLenG : ∃ g, Tryz.prog.globalNamed "internal/bytealg.MaxLen" = some g ∧ g = spRen.g 1 := ⟨spRen.g 1, by kernel_rfl, rfl⟩
theorem doorT2 : doorB Tryz.prog = true := by kernel_rfl
theorem split_ok (s t : List UInt8) (r : List (List UInt8)) (hr : T_strings_Split (s, t) = some r) :
    Ok Tryz.prog (spRen.f 146) [.lit (.string (ba s)), .lit (.string (ba t))] fun v outs => v = .sl true 1 (r.map (ET.enc .str)) ∧ Outs [] [] outs := by
  unfold T_strings_Split at hr
  split at hr <;> try (cases hr; done)
  rename_i c hc
  simp only at hc
  subst hc
  split at hr <;> try (cases hr; done)
  rename_i hs
  simp only at hs hr
  intro w S O vals htab hOS hOl hSl hrl
  obtain ⟨u, ur, F1, F2, rfl, l1, l2, d12, hu, hr2⟩ := hrl
  obtain ⟨ui, ur', F3, F4, rfl, l3, l4, d34, hui, hr3⟩ := hr2
  simp only [RV] at hu hui
  simp only [RL] at hr3
  subst hu; subst hui; subst hr3
  obtain ⟨g, hg, hge⟩ := maxLenG
  obtain ⟨_, _, v, h3, m, rfl⟩ := htab doorT2 _ _ (by exact List.mem_cons_of_mem _ (List.mem_cons_self ..)) g hg
  have hm : w.cell? ⟨(spRen.g 1), 0, none⟩ = some (.int .i64 m) := by
    rw [← hge]
    exact World.var?_cell hg h3 0
  have hsz : (ba s).size = s.length := by simp [ba, ByteArray.size]
  refine (Any.strings_Split lay_Lays_n146 (by kernel_rfl) (ba s) (ba [c]) m w (by rw [hsz]; exact hs) hm (by show 1 ≤ (ba [c]).size; exact Nat.le_refl 1)).mono ?_
  rintro e w' ⟨rfl, rfl⟩
  have hcnt : Lib.countB (ba s) (ba [c]) = Lib.count s [c] := rfl
  have hre : r = splK c (Lib.count s [c]) s := (Option.some.inj hr).symm
  have hcs : Lib.splitB (ba [c]) 0 (Lib.countB (ba s) (ba [c])) (ba s) = r.map ba := by rw [hcnt, splK_eq, hre]
  have hlen : r.length = Lib.countB (ba s) (ba [c]) + 1 := by
    have := Lib.splitB_all (ba [c]) (Nat.le_refl 1) 0 _ (ba s) rfl
    rw [hcs, List.length_map] at this
    exact this
  have hcl : Lib.count s [c] ≤ s.length := by
    have := Lib.countB_le (ba [c]) (Nat.le_refl 1) _ (ba s) (Nat.le_refl _)
    rw [hsz] at this; exact this
  rw [hcs, ← hlen]
  have hmap : (List.map Value.string (r.map ba)).toArray.size = r.length := by simp
  have hp : Pres CS.none w (w.alloc (.cells (List.map Value.string (r.map ba)).toArray (spRen.t 9))) := ⟨rfl, rfl, by show w.heap.size ≤ (w.heap.push _).size; rw [Array.size_push]; omega, fun b o h => ⟨o, by
    have := heap_lt h
    show (w.heap.push _)[b]? = some o
    rw [Array.getElem?_push_lt this, ← h, Array.getElem?_eq_getElem this], .inl rfl⟩⟩
  have hnew : (w.alloc (.cells (List.map Value.string (r.map ba)).toArray (spRen.t 9))).heap[w.heap.size]? = some (.cells (List.map Value.string (r.map ba)).toArray (spRen.t 9)) := by
    show (w.heap.push _)[w.heap.size]? = _
    rw [Array.getElem?_push_size]
  have hcell : ∀ k, k < r.length → (w.alloc (.cells (List.map Value.string (r.map ba)).toArray (spRen.t 9))).cell? ⟨w.heap.size, k, none⟩ = (r[k]?).map fun s => Value.string (ba s) := by
    intro k hk
    simp only [World.cell?, hnew]
    simp [hk]
  refine ⟨⟨_, .sl true 1 (r.map (ET.enc .str)), [.lit (.string (ba s)), .lit (.string (ba [c]))], S, fun b _ => b = w.heap.size, CS.none, rfl, ⟨rfl, ?_⟩, CS.le.refl _, (CS.none_dj _).symm, ?_, CS.none_dj _, ?_, ?_, hp.mono (fun b x _ h => h.elim), ?_, ?_⟩⟩
  · intro j i v h1 h2; simp at h1
  · rintro b x rfl h2
    exact absurd (hSl _ _ h2) (by omega)
  · refine ⟨some ⟨w.heap.size, 0, none⟩, r.length, ?_, ⟨?_, ?_⟩, .inr (.inr ⟨w.heap.size, 0, r.map fun s => [Value.string (ba s)], rfl, ?_, ?_, ?_, ?_, ?_⟩)⟩
    · rw [List.length_map]
    · rw [List.length_map]; omega
    · rw [hlen, hcnt]; omega
    · intro e he
      simp only [List.mem_map] at he
      obtain ⟨s, _, rfl⟩ := he
      rfl
    · intro k m hk hm
      have hm0 : m = 0 := by omega
      subst hm0
      rw [List.length_map] at hk
      simp only [Nat.mul_one, Nat.add_zero, Nat.zero_add]
      rw [hcell k hk, List.getElem?_map]
      cases r[k]? <;> rfl
    · intro _ x hx
      refine ⟨rfl, ?_, ?_⟩
      · simp only [Nat.mul_one, Nat.zero_add] at hx ⊢
        rw [hcell x hx, List.getElem?_eq_getElem hx]; rfl
      · exact ⟨_, _, hnew⟩
    · intro h; cases h
    · exact sp_rll _ _ _ _ _
  · exact ⟨_, _, CS.none, CS.none, rfl, CS.le.refl _, CS.le.refl _, CS.none_dj _, rfl, _, _, CS.none, CS.none, rfl, CS.le.refl _, CS.le.refl _, CS.none_dj _, rfl, rfl⟩
  · rintro k x (h | h)
    · subst h
      exact ⟨.inr (Nat.le_refl _), heap_lt hnew⟩
    · exact h.elim
  · intro k x h
    exact ⟨.inl h, Nat.lt_of_lt_of_le (hSl _ _ h) hp.size⟩
theorem ok_strings_Split : FnOk Tryz.prog fn_strings_Split := ⟨by kernel_rfl, fun x r hr => split_ok x.1 x.2 r hr⟩
end Xs
end YtjeikneboeallaaGreatDoor
end Go.Proofs
