/- strconv.Itoa, as the machine needs it: the figures, and that nothing turns. -/
import Derived.Test.YtjeikneboeallaaGreatDoorT7
import Derived.Test.YtjeikneboeallaaGreatDoorProg
import Derived.KernelRfl
import Derived.Shelf.Strconv.Itoa3
namespace Go.Proofs
open Go Go.Shelf Go.RowKit Go.Sort
namespace YtjeikneboeallaaGreatDoor
open Vm
namespace Xs
set_option linter.unusedVariables false
set_option linter.unusedSimpArgs false
def itRen : Ren := ⟨fun | 0 => 0 | 1 => 1 | 2 => 2 | 129 => 142 | 138 => 139 | 143 => 140 | 146 => 129 | 171 => 115 | 195 => 146 | 197 => 147 | 217 => 153 | 218 => 148 | 219 => 149 | 221 => 133 | 224 => 155 | 225 => 154 | 243 => 128 | 246 => 132 | 260 => 152 | 266 => 157 | 267 => 156 | 268 => 138 | 283 => 134 | 284 => 135 | 285 => 136 | 286 => 137 | 314 => 158 | 317 => 141 | 318 => 143 | 319 => 144 | 320 => 145 | 337 => 150 | 338 => 151 | 347 => 159 | 348 => 160 | 349 => 161 | 350 => 162 | 351 => 163 | 352 => 164 | 353 => 165 | 354 => 166 | 355 => 167 | 356 => 168 | 357 => 169 | 358 => 170 | 359 => 171 | 360 => 172 | 361 => 173 | 366 => 177 | 367 => 185 | n => n, fun | 0 => 0 | 1 => 1 | 2 => 2 | 3 => 3 | 4 => 4 | 5 => 5 | 6 => 6 | 7 => 7 | 8 => 8 | 9 => 9 | 10 => 10 | 11 => 11 | 12 => 12 | 13 => 13 | 14 => 14 | 15 => 15 | 16 => 16 | 17 => 17 | 18 => 18 | 19 => 19 | 20 => 20 | 21 => 21 | 24 => 97 | 27 => 233 | 28 => 30 | 30 => 51 | 31 => 54 | 34 => 75 | 37 => 155 | 46 => 239 | 47 => 240 | 51 => 236 | 52 => 245 | 53 => 227 | 54 => 228 | 55 => 244 | 61 => 220 | 69 => 153 | 80 => 71 | 81 => 114 | 83 => 100 | 84 => 224 | 101 => 190 | 102 => 177 | 103 => 241 | 104 => 99 | 105 => 242 | 106 => 243 | 111 => 238 | 113 => 225 | 114 => 182 | 119 => 248 | 127 => 262 | 131 => 221 | 137 => 249 | 138 => 250 | 139 => 251 | 146 => 252 | 150 => 232 | 151 => 253 | 164 => 267 | 171 => 226 | 172 => 229 | 173 => 230 | 174 => 231 | 211 => 234 | 212 => 235 | 213 => 237 | 232 => 246 | 233 => 247 | 238 => 254 | 239 => 255 | 240 => 256 | 241 => 257 | 242 => 258 | 243 => 259 | 244 => 260 | 245 => 261 | 246 => 263 | 247 => 264 | 248 => 265 | 249 => 266 | n => n, fun | 1 => 1 | 3 => 4 | 4 => 5 | 17 => 0 | 18 => 2 | 19 => 3 | n => n⟩
theorem lay_LaysM_n171 : LaysM.n171 Tryz.prog itRen where
  mixed := by kernel_rfl
  f129 := Tryz.func142.trans (congrArg some (by kernel_rfl))
  f171 := Tryz.func115.trans (congrArg some (by kernel_rfl))
  f243 := Tryz.func128.trans (congrArg some (by kernel_rfl))
  f246 := Tryz.func132.trans (congrArg some (by kernel_rfl))
  f283 := Tryz.func134.trans (congrArg some (by kernel_rfl))
  f284 := Tryz.func135.trans (congrArg some (by kernel_rfl))
  f285 := Tryz.func136.trans (congrArg some (by kernel_rfl))
  f286 := Tryz.func137.trans (congrArg some (by kernel_rfl))
  f317 := Tryz.func141.trans (congrArg some (by kernel_rfl))
  f318 := Tryz.func143.trans (congrArg some (by kernel_rfl))
  f319 := Tryz.func144.trans (congrArg some (by kernel_rfl))
  f320 := Tryz.func145.trans (congrArg some (by kernel_rfl))
  f337 := Tryz.func150.trans (congrArg some (by kernel_rfl))
  f338 := Tryz.func151.trans (congrArg some (by kernel_rfl))
  t0 := Tryz.underlying0
  a0 := Tryz.isAgg0
  z0 := Tryz.sizeOf0
  v0 := Tryz.zeroValue0
  t2 := Tryz.underlying2
  a2 := Tryz.isAgg2
  z2 := Tryz.sizeOf2
  v2 := Tryz.zeroValue2
  t3 := Tryz.underlying3
  a3 := Tryz.isAgg3
  z3 := Tryz.sizeOf3
  v3 := Tryz.zeroValue3
  t4 := Tryz.underlying4
  a4 := Tryz.isAgg4
  z4 := Tryz.sizeOf4
  v4 := Tryz.zeroValue4
  t5 := Tryz.underlying5
  a5 := Tryz.isAgg5
  z5 := Tryz.sizeOf5
  v5 := Tryz.zeroValue5
  t9 := Tryz.underlying9
  a9 := Tryz.isAgg9
  z9 := Tryz.sizeOf9
  v9 := Tryz.zeroValue9
  t20 := Tryz.underlying20
  a20 := Tryz.isAgg20
  z20 := Tryz.sizeOf20
  v20 := Tryz.zeroValue20
  t37 := Tryz.underlying155
  a37 := Tryz.isAgg155
  z37 := Tryz.sizeOf155
  v37 := Tryz.zeroValue155
  t46 := Tryz.underlying239
  a46 := Tryz.isAgg239
  z46 := Tryz.sizeOf239
  v46 := Tryz.zeroValue239
  t51 := Tryz.underlying236
  a51 := Tryz.isAgg236
  z51 := Tryz.sizeOf236
  v51 := Tryz.zeroValue236
  t53 := Tryz.underlying227
  a53 := Tryz.isAgg227
  z53 := Tryz.sizeOf227
  v53 := Tryz.zeroValue227
  t171 := Tryz.underlying226
  a171 := Tryz.isAgg226
  z171 := Tryz.sizeOf226
  v171 := Tryz.zeroValue226
  t173 := Tryz.underlying230
  a173 := Tryz.isAgg230
  z173 := Tryz.sizeOf230
  v173 := Tryz.zeroValue230
  t212 := Tryz.underlying235
  a212 := Tryz.isAgg235
  z212 := Tryz.sizeOf235
  v212 := Tryz.zeroValue235
  t213 := Tryz.underlying237
  a213 := Tryz.isAgg237
  z213 := Tryz.sizeOf237
  t232 := Tryz.underlying246
  a232 := Tryz.isAgg246
  z232 := Tryz.sizeOf246
  v232 := Tryz.zeroValue246
  t233 := Tryz.underlying247
  a233 := Tryz.isAgg247
  z233 := Tryz.sizeOf247
  v233 := Tryz.zeroValue247
  g17 := by kernel_rfl
  g18 := by kernel_rfl
  g19 := by kernel_rfl
  i0 := by kernel_rfl
  i2 := by kernel_rfl
  i3 := by kernel_rfl
  i4 := by kernel_rfl
  i5 := by kernel_rfl
  i9 := by kernel_rfl
  i20 := by kernel_rfl
  i37 := by kernel_rfl
  i46 := by kernel_rfl
  i51 := by kernel_rfl
  i53 := by kernel_rfl
  i171 := by kernel_rfl
  i173 := by kernel_rfl
  i212 := by kernel_rfl
  i232 := by kernel_rfl
  i233 := by kernel_rfl
  m17 := by kernel_rfl
  m18 := by kernel_rfl
  m19 := by kernel_rfl

theorem pow10G : ∃ g, Tryz.prog.globalNamed "internal/strconv.uint64pow10" = some g := ⟨_, lay_LaysM_n171.m17⟩
theorem doorT : doorB Tryz.prog = true := by
  obtain ⟨g, hg⟩ := pow10G
  unfold doorB; rw [hg]; rfl
def T_strconv_Itoa : Int → Option (List UInt8) := fun n => if -9223372036854775808 ≤ n ∧ n ≤ 9223372036854775807 then some (Lib.itoa n) else none
def fn_strconv_Itoa : TFn := ⟨115, [.cell (.int .i64)], [], [.cell .str], [], T_strconv_Itoa⟩
theorem itoa_ok (n : Int) (r : List UInt8) (hr : T_strconv_Itoa n = some r) :
    Ok Tryz.prog (itRen.f 171) [.lit (.int .i64 n)] fun v outs => v = .lit (.string (ba r)) ∧ Outs [] [] outs := by
  unfold T_strconv_Itoa at hr
  split at hr <;> try (cases hr; done)
  rename_i hn
  cases hr
  intro w S O vals htab hOS hOl hSl hrl
  obtain ⟨u, ur, F1, F2, rfl, l1, l2, d12, hu, hr2⟩ := hrl
  simp only [RV] at hu
  simp only [RL] at hr2
  subst hu; subst hr2
  obtain ⟨g, hg⟩ := pow10G
  obtain ⟨_, _, v, h3, h4⟩ := htab doorT _ _ (by exact List.mem_cons_self ..) g hg
  have hT : Lib.TabIs Tryz.prog w "internal/strconv.uint64pow10" .u64 Lib.pow10Tab := by
    unfold Lib.TabIs; rw [h3, h4]
  refine (Any.strconv_Itoa lay_LaysM_n171 n hn.1 hn.2 w hT).mono ?_
  rintro e w' ⟨rfl, k, os, rfl⟩
  have hp : Pres CS.none w (grow (w.drewN k) os) := ⟨rfl, rfl, by simp [grow, World.drewN], fun b o h => ⟨o, by
    have := heap_lt h
    simp only [grow, World.drewN]
    rw [Array.getElem?_append_left this]; exact h, .inl rfl⟩⟩
  refine ⟨⟨_, .lit (.string (ba (Lib.itoa n))), [.hole], S, CS.none, CS.none, rfl, ⟨rfl, ?_⟩, CS.le.refl _, CS.none_dj _, CS.none_dj _, CS.none_dj _, rfl, ?_, hp.mono (fun b x _ h => h.elim), ?_, ?_⟩⟩
  · intro j i v h1 h2; simp at h1
  · exact ⟨_, _, CS.none, CS.none, rfl, CS.le.refl _, CS.le.refl _, CS.none_dj _, trivial, rfl⟩
  · rintro k x (h | h) <;> exact h.elim
  · intro k x h
    exact ⟨.inl h, Nat.lt_of_lt_of_le (hSl _ _ h) hp.size⟩
theorem ok_strconv_Itoa : FnOk Tryz.prog fn_strconv_Itoa := ⟨by kernel_rfl, fun x r hr => itoa_ok x r hr⟩
end Xs
end YtjeikneboeallaaGreatDoor
end Go.Proofs
