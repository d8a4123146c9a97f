/- strconv.Itoa, as the machine needs it: the figures, and that nothing turns. -/
import Derived.Test.YtkjpdhdmjjepfaaDoorT7
import Derived.Test.YtkjpdhdmjjepfaaDoorProg
import Derived.KernelRfl
import Derived.Shelf.Strconv.Itoa3
namespace Go.Proofs
open Go Go.Shelf Go.RowKit Go.Sort
namespace YtkjpdhdmjjepfaaDoor
open Vm
namespace Xs
set_option linter.unusedVariables false
set_option linter.unusedSimpArgs false
def itRen : Ren := ⟨fun | 0 => 0 | 1 => 1 | 2 => 2 | 102 => 130 | 107 => 62 | 108 => 114 | 129 => 193 | 138 => 155 | 143 => 156 | 146 => 111 | 166 => 122 | 169 => 123 | 171 => 157 | 195 => 171 | 197 => 172 | 207 => 167 | 209 => 149 | 217 => 180 | 218 => 173 | 219 => 174 | 221 => 140 | 224 => 182 | 225 => 181 | 240 => 145 | 243 => 175 | 246 => 184 | 260 => 179 | 266 => 186 | 267 => 183 | 268 => 154 | 276 => 161 | 283 => 188 | 284 => 189 | 285 => 190 | 286 => 191 | 308 => 162 | 314 => 187 | 317 => 192 | 318 => 194 | 319 => 195 | 320 => 196 | 336 => 176 | 337 => 197 | 338 => 198 | 347 => 199 | 348 => 200 | 349 => 201 | 350 => 202 | 351 => 203 | 352 => 204 | 353 => 205 | 354 => 206 | 355 => 207 | 356 => 208 | 357 => 209 | 358 => 210 | 359 => 211 | 360 => 212 | 361 => 213 | 362 => 215 | 366 => 216 | 367 => 224 | n => n, fun | 0 => 0 | 1 => 1 | 2 => 2 | 3 => 3 | 4 => 4 | 5 => 5 | 6 => 6 | 7 => 7 | 8 => 8 | 9 => 9 | 10 => 10 | 11 => 11 | 12 => 12 | 13 => 13 | 14 => 14 | 15 => 15 | 16 => 16 | 17 => 17 | 18 => 18 | 19 => 19 | 20 => 20 | 21 => 21 | 22 => 87 | 23 => 153 | 24 => 49 | 27 => 168 | 28 => 33 | 29 => 82 | 30 => 44 | 31 => 22 | 34 => 42 | 37 => 46 | 46 => 169 | 47 => 199 | 51 => 187 | 52 => 200 | 53 => 191 | 54 => 192 | 55 => 180 | 61 => 133 | 68 => 103 | 69 => 94 | 70 => 144 | 71 => 145 | 72 => 146 | 74 => 147 | 75 => 148 | 76 => 149 | 77 => 150 | 80 => 72 | 81 => 71 | 83 => 120 | 84 => 181 | 100 => 182 | 101 => 52 | 102 => 129 | 103 => 177 | 104 => 29 | 105 => 178 | 106 => 179 | 111 => 174 | 113 => 159 | 114 => 125 | 119 => 183 | 127 => 163 | 131 => 134 | 137 => 184 | 138 => 185 | 139 => 186 | 146 => 188 | 150 => 167 | 151 => 189 | 164 => 170 | 165 => 171 | 171 => 190 | 172 => 193 | 173 => 194 | 174 => 195 | 211 => 196 | 212 => 197 | 213 => 198 | 232 => 201 | 233 => 202 | 238 => 203 | 239 => 204 | 240 => 205 | 241 => 206 | 242 => 207 | 243 => 208 | 244 => 209 | 245 => 210 | 246 => 211 | 247 => 212 | 248 => 213 | 249 => 214 | n => n, fun | 1 => 0 | 3 => 1 | 4 => 2 | 17 => 3 | 18 => 4 | 19 => 5 | n => n⟩
theorem lay_LaysM_n171 : LaysM.n171 Tryd.prog itRen where
  mixed := by kernel_rfl
  f129 := Tryd.func193.trans (congrArg some (by kernel_rfl))
  f171 := Tryd.func157.trans (congrArg some (by kernel_rfl))
  f243 := Tryd.func175.trans (congrArg some (by kernel_rfl))
  f246 := Tryd.func184.trans (congrArg some (by kernel_rfl))
  f283 := Tryd.func188.trans (congrArg some (by kernel_rfl))
  f284 := Tryd.func189.trans (congrArg some (by kernel_rfl))
  f285 := Tryd.func190.trans (congrArg some (by kernel_rfl))
  f286 := Tryd.func191.trans (congrArg some (by kernel_rfl))
  f317 := Tryd.func192.trans (congrArg some (by kernel_rfl))
  f318 := Tryd.func194.trans (congrArg some (by kernel_rfl))
  f319 := Tryd.func195.trans (congrArg some (by kernel_rfl))
  f320 := Tryd.func196.trans (congrArg some (by kernel_rfl))
  f337 := Tryd.func197.trans (congrArg some (by kernel_rfl))
  f338 := Tryd.func198.trans (congrArg some (by kernel_rfl))
  t0 := Tryd.underlying0
  a0 := Tryd.isAgg0
  z0 := Tryd.sizeOf0
  v0 := Tryd.zeroValue0
  t2 := Tryd.underlying2
  a2 := Tryd.isAgg2
  z2 := Tryd.sizeOf2
  v2 := Tryd.zeroValue2
  t3 := Tryd.underlying3
  a3 := Tryd.isAgg3
  z3 := Tryd.sizeOf3
  v3 := Tryd.zeroValue3
  t4 := Tryd.underlying4
  a4 := Tryd.isAgg4
  z4 := Tryd.sizeOf4
  v4 := Tryd.zeroValue4
  t5 := Tryd.underlying5
  a5 := Tryd.isAgg5
  z5 := Tryd.sizeOf5
  v5 := Tryd.zeroValue5
  t9 := Tryd.underlying9
  a9 := Tryd.isAgg9
  z9 := Tryd.sizeOf9
  v9 := Tryd.zeroValue9
  t20 := Tryd.underlying20
  a20 := Tryd.isAgg20
  z20 := Tryd.sizeOf20
  v20 := Tryd.zeroValue20
  t37 := Tryd.underlying46
  a37 := Tryd.isAgg46
  z37 := Tryd.sizeOf46
  v37 := Tryd.zeroValue46
  t46 := Tryd.underlying169
  a46 := Tryd.isAgg169
  z46 := Tryd.sizeOf169
  v46 := Tryd.zeroValue169
  t51 := Tryd.underlying187
  a51 := Tryd.isAgg187
  z51 := Tryd.sizeOf187
  v51 := Tryd.zeroValue187
  t53 := Tryd.underlying191
  a53 := Tryd.isAgg191
  z53 := Tryd.sizeOf191
  v53 := Tryd.zeroValue191
  t171 := Tryd.underlying190
  a171 := Tryd.isAgg190
  z171 := Tryd.sizeOf190
  v171 := Tryd.zeroValue190
  t173 := Tryd.underlying194
  a173 := Tryd.isAgg194
  z173 := Tryd.sizeOf194
  v173 := Tryd.zeroValue194
  t212 := Tryd.underlying197
  a212 := Tryd.isAgg197
  z212 := Tryd.sizeOf197
  v212 := Tryd.zeroValue197
  t213 := Tryd.underlying198
  a213 := Tryd.isAgg198
  z213 := Tryd.sizeOf198
  t232 := Tryd.underlying201
  a232 := Tryd.isAgg201
  z232 := Tryd.sizeOf201
  v232 := Tryd.zeroValue201
  t233 := Tryd.underlying202
  a233 := Tryd.isAgg202
  z233 := Tryd.sizeOf202
  v233 := Tryd.zeroValue202
  g17 := by kernel_rfl
  g18 := by kernel_rfl
  g19 := by kernel_rfl
  i0 := by kernel_rfl
  i2 := by kernel_rfl
  i3 := by kernel_rfl
  i4 := by kernel_rfl
  i5 := by kernel_rfl
  i9 := by kernel_rfl
  i20 := by kernel_rfl
  i37 := by kernel_rfl
  i46 := by kernel_rfl
  i51 := by kernel_rfl
  i53 := by kernel_rfl
  i171 := by kernel_rfl
  i173 := by kernel_rfl
  i212 := by kernel_rfl
  i232 := by kernel_rfl
  i233 := by kernel_rfl
  m17 := by kernel_rfl
  m18 := by kernel_rfl
  m19 := by kernel_rfl

theorem pow10G : ∃ g, Tryd.prog.globalNamed "internal/strconv.uint64pow10" = some g := ⟨_, lay_LaysM_n171.m17⟩
theorem doorT : doorB Tryd.prog = true := by
  obtain ⟨g, hg⟩ := pow10G
  unfold doorB; rw [hg]; rfl
def T_strconv_Itoa : Int → Option (List UInt8) := fun n => if -9223372036854775808 ≤ n ∧ n ≤ 9223372036854775807 then some (Lib.itoa n) else none
def fn_strconv_Itoa : TFn := ⟨157, [.cell (.int .i64)], [], [.cell .str], [], T_strconv_Itoa⟩
theorem itoa_ok (n : Int) (r : List UInt8) (hr : T_strconv_Itoa n = some r) :
    Ok Tryd.prog (itRen.f 171) [.lit (.int .i64 n)] fun v outs => v = .lit (.string (ba r)) ∧ Outs [] [] outs := by
  unfold T_strconv_Itoa at hr
  split at hr <;> try (cases hr; done)
  rename_i hn
  cases hr
  intro w S O vals htab hOS hOl hSl hrl
  obtain ⟨u, ur, F1, F2, rfl, l1, l2, d12, hu, hr2⟩ := hrl
  simp only [RV] at hu
  simp only [RL] at hr2
  subst hu; subst hr2
  obtain ⟨g, hg⟩ := pow10G
  obtain ⟨_, _, v, h3, h4⟩ := htab doorT _ _ (by exact List.mem_cons_self ..) g hg
  have hT : Lib.TabIs Tryd.prog w "internal/strconv.uint64pow10" .u64 Lib.pow10Tab := by
    unfold Lib.TabIs; rw [h3, h4]
  refine (Any.strconv_Itoa lay_LaysM_n171 n hn.1 hn.2 w hT).mono ?_
  rintro e w' ⟨rfl, k, os, rfl⟩
  have hp : Pres CS.none w (grow (w.drewN k) os) := ⟨rfl, rfl, by simp [grow, World.drewN], fun b o h => ⟨o, by
    have := heap_lt h
    simp only [grow, World.drewN]
    rw [Array.getElem?_append_left this]; exact h, .inl rfl⟩⟩
  refine ⟨⟨_, .lit (.string (ba (Lib.itoa n))), [.hole], S, CS.none, CS.none, rfl, ⟨rfl, ?_⟩, CS.le.refl _, CS.none_dj _, CS.none_dj _, CS.none_dj _, rfl, ?_, hp.mono (fun b x _ h => h.elim), ?_, ?_⟩⟩
  · intro j i v h1 h2; simp at h1
  · exact ⟨_, _, CS.none, CS.none, rfl, CS.le.refl _, CS.le.refl _, CS.none_dj _, trivial, rfl⟩
  · rintro k x (h | h) <;> exact h.elim
  · intro k x h
    exact ⟨.inl h, Nat.lt_of_lt_of_le (hSl _ _ h) hp.size⟩
theorem ok_strconv_Itoa : FnOk Tryd.prog fn_strconv_Itoa := ⟨by kernel_rfl, fun x r hr => itoa_ok x r hr⟩
end Xs
end YtkjpdhdmjjepfaaDoor
end Go.Proofs
