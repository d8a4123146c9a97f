/- strconv.Itoa, as the machine needs it: the figures, and that nothing turns. -/
import Derived.Test.YtlblgfhdndpmfaaDoorT7
import Derived.Test.YtlblgfhdndpmfaaDoorProg
import Derived.KernelRfl
import Derived.Shelf.Strconv.Itoa3
namespace Go.Proofs
open Go Go.Shelf Go.RowKit Go.Sort
namespace YtlblgfhdndpmfaaDoor
open Vm
namespace Xs
set_option linter.unusedVariables false
set_option linter.unusedSimpArgs false
def itRen : Ren := ⟨fun | 0 => 0 | 1 => 1 | 2 => 2 | 129 => 84 | 138 => 81 | 143 => 82 | 146 => 69 | 166 => 66 | 169 => 67 | 171 => 59 | 195 => 88 | 197 => 89 | 217 => 95 | 218 => 90 | 219 => 91 | 221 => 74 | 224 => 97 | 225 => 96 | 240 => 72 | 243 => 68 | 246 => 73 | 260 => 94 | 266 => 99 | 267 => 98 | 268 => 80 | 276 => 75 | 283 => 76 | 284 => 77 | 285 => 78 | 286 => 79 | 314 => 100 | 317 => 83 | 318 => 85 | 319 => 86 | 320 => 87 | 337 => 92 | 338 => 93 | 347 => 101 | 348 => 102 | 349 => 103 | 350 => 104 | 351 => 105 | 352 => 106 | 353 => 107 | 354 => 108 | 355 => 109 | 356 => 110 | 357 => 111 | 358 => 112 | 359 => 113 | 360 => 114 | 361 => 115 | 362 => 117 | 366 => 118 | 367 => 126 | n => n, fun | 0 => 0 | 1 => 1 | 2 => 2 | 3 => 3 | 4 => 4 | 5 => 5 | 6 => 6 | 7 => 7 | 8 => 8 | 9 => 9 | 10 => 10 | 11 => 11 | 12 => 12 | 13 => 13 | 14 => 14 | 15 => 15 | 16 => 16 | 17 => 17 | 18 => 18 | 19 => 19 | 20 => 20 | 21 => 21 | 24 => 58 | 27 => 118 | 28 => 22 | 30 => 62 | 31 => 38 | 34 => 71 | 37 => 87 | 46 => 125 | 47 => 126 | 51 => 122 | 52 => 131 | 53 => 112 | 54 => 113 | 55 => 130 | 61 => 102 | 69 => 83 | 70 => 94 | 71 => 95 | 72 => 96 | 74 => 97 | 75 => 98 | 76 => 99 | 77 => 100 | 80 => 101 | 81 => 145 | 83 => 63 | 84 => 107 | 101 => 77 | 102 => 76 | 103 => 127 | 104 => 74 | 105 => 128 | 106 => 129 | 111 => 124 | 113 => 108 | 114 => 119 | 119 => 134 | 127 => 106 | 131 => 103 | 137 => 135 | 138 => 136 | 139 => 137 | 146 => 138 | 150 => 117 | 151 => 139 | 164 => 109 | 165 => 110 | 171 => 111 | 172 => 114 | 173 => 115 | 174 => 116 | 211 => 120 | 212 => 121 | 213 => 123 | 232 => 132 | 233 => 133 | 238 => 140 | 239 => 141 | 240 => 142 | 241 => 143 | 242 => 144 | 243 => 146 | 244 => 147 | 245 => 148 | 246 => 149 | 247 => 150 | 248 => 151 | 249 => 152 | n => n, fun | 1 => 1 | 3 => 4 | 4 => 5 | 17 => 0 | 18 => 2 | 19 => 3 | n => n⟩
theorem lay_LaysM_n171 : LaysM.n171 Tryd.prog itRen where
  mixed := by kernel_rfl
  f129 := Tryd.func84.trans (congrArg some (by kernel_rfl))
  f171 := Tryd.func59.trans (congrArg some (by kernel_rfl))
  f243 := Tryd.func68.trans (congrArg some (by kernel_rfl))
  f246 := Tryd.func73.trans (congrArg some (by kernel_rfl))
  f283 := Tryd.func76.trans (congrArg some (by kernel_rfl))
  f284 := Tryd.func77.trans (congrArg some (by kernel_rfl))
  f285 := Tryd.func78.trans (congrArg some (by kernel_rfl))
  f286 := Tryd.func79.trans (congrArg some (by kernel_rfl))
  f317 := Tryd.func83.trans (congrArg some (by kernel_rfl))
  f318 := Tryd.func85.trans (congrArg some (by kernel_rfl))
  f319 := Tryd.func86.trans (congrArg some (by kernel_rfl))
  f320 := Tryd.func87.trans (congrArg some (by kernel_rfl))
  f337 := Tryd.func92.trans (congrArg some (by kernel_rfl))
  f338 := Tryd.func93.trans (congrArg some (by kernel_rfl))
  t0 := Tryd.underlying0
  a0 := Tryd.isAgg0
  z0 := Tryd.sizeOf0
  v0 := Tryd.zeroValue0
  t2 := Tryd.underlying2
  a2 := Tryd.isAgg2
  z2 := Tryd.sizeOf2
  v2 := Tryd.zeroValue2
  t3 := Tryd.underlying3
  a3 := Tryd.isAgg3
  z3 := Tryd.sizeOf3
  v3 := Tryd.zeroValue3
  t4 := Tryd.underlying4
  a4 := Tryd.isAgg4
  z4 := Tryd.sizeOf4
  v4 := Tryd.zeroValue4
  t5 := Tryd.underlying5
  a5 := Tryd.isAgg5
  z5 := Tryd.sizeOf5
  v5 := Tryd.zeroValue5
  t9 := Tryd.underlying9
  a9 := Tryd.isAgg9
  z9 := Tryd.sizeOf9
  v9 := Tryd.zeroValue9
  t20 := Tryd.underlying20
  a20 := Tryd.isAgg20
  z20 := Tryd.sizeOf20
  v20 := Tryd.zeroValue20
  t37 := Tryd.underlying87
  a37 := Tryd.isAgg87
  z37 := Tryd.sizeOf87
  v37 := Tryd.zeroValue87
  t46 := Tryd.underlying125
  a46 := Tryd.isAgg125
  z46 := Tryd.sizeOf125
  v46 := Tryd.zeroValue125
  t51 := Tryd.underlying122
  a51 := Tryd.isAgg122
  z51 := Tryd.sizeOf122
  v51 := Tryd.zeroValue122
  t53 := Tryd.underlying112
  a53 := Tryd.isAgg112
  z53 := Tryd.sizeOf112
  v53 := Tryd.zeroValue112
  t171 := Tryd.underlying111
  a171 := Tryd.isAgg111
  z171 := Tryd.sizeOf111
  v171 := Tryd.zeroValue111
  t173 := Tryd.underlying115
  a173 := Tryd.isAgg115
  z173 := Tryd.sizeOf115
  v173 := Tryd.zeroValue115
  t212 := Tryd.underlying121
  a212 := Tryd.isAgg121
  z212 := Tryd.sizeOf121
  v212 := Tryd.zeroValue121
  t213 := Tryd.underlying123
  a213 := Tryd.isAgg123
  z213 := Tryd.sizeOf123
  t232 := Tryd.underlying132
  a232 := Tryd.isAgg132
  z232 := Tryd.sizeOf132
  v232 := Tryd.zeroValue132
  t233 := Tryd.underlying133
  a233 := Tryd.isAgg133
  z233 := Tryd.sizeOf133
  v233 := Tryd.zeroValue133
  g17 := by kernel_rfl
  g18 := by kernel_rfl
  g19 := by kernel_rfl
  i0 := by kernel_rfl
  i2 := by kernel_rfl
  i3 := by kernel_rfl
  i4 := by kernel_rfl
  i5 := by kernel_rfl
  i9 := by kernel_rfl
  i20 := by kernel_rfl
  i37 := by kernel_rfl
  i46 := by kernel_rfl
  i51 := by kernel_rfl
  i53 := by kernel_rfl
  i171 := by kernel_rfl
  i173 := by kernel_rfl
  i212 := by kernel_rfl
  i232 := by kernel_rfl
  i233 := by kernel_rfl
  m17 := by kernel_rfl
  m18 := by kernel_rfl
  m19 := by kernel_rfl

theorem pow10G : ∃ g, Tryd.prog.globalNamed "internal/strconv.uint64pow10" = some g := ⟨_, lay_LaysM_n171.m17⟩
theorem doorT : doorB Tryd.prog = true := by
  obtain ⟨g, hg⟩ := pow10G
  unfold doorB; rw [hg]; rfl
def T_strconv_Itoa : Int → Option (List UInt8) := fun n => if -9223372036854775808 ≤ n ∧ n ≤ 9223372036854775807 then some (Lib.itoa n) else none
def fn_strconv_Itoa : TFn := ⟨59, [.cell (.int .i64)], [], [.cell .str], [], T_strconv_Itoa⟩
theorem itoa_ok (n : Int) (r : List UInt8) (hr : T_strconv_Itoa n = some r) :
    Ok Tryd.prog (itRen.f 171) [.lit (.int .i64 n)] fun v outs => v = .lit (.string (ba r)) ∧ Outs [] [] outs := by
  unfold T_strconv_Itoa at hr
  split at hr <;> try (cases hr; done)
  rename_i hn
  cases hr
  intro w S O vals htab hOS hOl hSl hrl
  obtain ⟨u, ur, F1, F2, rfl, l1, l2, d12, hu, hr2⟩ := hrl
  simp only [RV] at hu
  simp only [RL] at hr2
  subst hu; subst hr2
  obtain ⟨g, hg⟩ := pow10G
  obtain ⟨_, _, v, h3, h4⟩ := htab doorT _ _ (by exact List.mem_cons_self ..) g hg
  have hT : Lib.TabIs Tryd.prog w "internal/strconv.uint64pow10" .u64 Lib.pow10Tab := by
    unfold Lib.TabIs; rw [h3, h4]
  refine (Any.strconv_Itoa lay_LaysM_n171 n hn.1 hn.2 w hT).mono ?_
  rintro e w' ⟨rfl, k, os, rfl⟩
  have hp : Pres CS.none w (grow (w.drewN k) os) := ⟨rfl, rfl, by simp [grow, World.drewN], fun b o h => ⟨o, by
    have := heap_lt h
    simp only [grow, World.drewN]
    rw [Array.getElem?_append_left this]; exact h, .inl rfl⟩⟩
  refine ⟨⟨_, .lit (.string (ba (Lib.itoa n))), [.hole], S, CS.none, CS.none, rfl, ⟨rfl, ?_⟩, CS.le.refl _, CS.none_dj _, CS.none_dj _, CS.none_dj _, rfl, ?_, hp.mono (fun b x _ h => h.elim), ?_, ?_⟩⟩
  · intro j i v h1 h2; simp at h1
  · exact ⟨_, _, CS.none, CS.none, rfl, CS.le.refl _, CS.le.refl _, CS.none_dj _, trivial, rfl⟩
  · rintro k x (h | h) <;> exact h.elim
  · intro k x h
    exact ⟨.inl h, Nat.lt_of_lt_of_le (hSl _ _ h) hp.size⟩
theorem ok_strconv_Itoa : FnOk Tryd.prog fn_strconv_Itoa := ⟨by kernel_rfl, fun x r hr => itoa_ok x r hr⟩
end Xs
end YtlblgfhdndpmfaaDoor
end Go.Proofs
