/- strconv.Itoa, as the machine needs it: the figures, and that nothing turns. -/
import Derived.Test.YtceeeagdjphbnaaDoorT7
import Derived.Test.YtceeeagdjphbnaaDoorProg
import Derived.KernelRfl
import Derived.Shelf.Strconv.Itoa3
namespace Go.Proofs
open Go Go.Shelf Go.RowKit Go.Sort
namespace YtceeeagdjphbnaaDoor
open Vm
namespace Xs
set_option linter.unusedVariables false
set_option linter.unusedSimpArgs false
def itRen : Ren := ⟨fun | 0 => 0 | 1 => 1 | 2 => 2 | 102 => 30 | 129 => 71 | 138 => 45 | 143 => 46 | 146 => 29 | 171 => 55 | 195 => 51 | 197 => 52 | 207 => 47 | 209 => 37 | 217 => 58 | 218 => 53 | 219 => 54 | 221 => 36 | 224 => 60 | 225 => 59 | 243 => 62 | 246 => 65 | 260 => 57 | 266 => 63 | 267 => 61 | 268 => 44 | 283 => 66 | 284 => 67 | 285 => 68 | 286 => 69 | 314 => 64 | 317 => 70 | 318 => 72 | 319 => 73 | 320 => 74 | 337 => 75 | 338 => 76 | 347 => 77 | 348 => 78 | 349 => 79 | 350 => 80 | 351 => 81 | 352 => 82 | 353 => 83 | 354 => 84 | 355 => 85 | 356 => 86 | 357 => 87 | 358 => 88 | 359 => 89 | 360 => 90 | 361 => 91 | 366 => 93 | 367 => 101 | n => n, fun | 0 => 0 | 1 => 1 | 2 => 2 | 3 => 3 | 4 => 4 | 5 => 5 | 6 => 6 | 7 => 7 | 8 => 8 | 9 => 9 | 10 => 10 | 11 => 11 | 12 => 12 | 13 => 13 | 14 => 14 | 15 => 15 | 16 => 16 | 17 => 17 | 18 => 18 | 19 => 19 | 20 => 20 | 21 => 21 | 22 => 70 | 23 => 58 | 27 => 69 | 28 => 35 | 30 => 51 | 31 => 31 | 34 => 62 | 37 => 63 | 46 => 78 | 47 => 96 | 51 => 83 | 52 => 97 | 53 => 88 | 54 => 89 | 55 => 76 | 61 => 57 | 68 => 32 | 80 => 100 | 81 => 106 | 83 => 52 | 84 => 86 | 103 => 73 | 104 => 30 | 105 => 74 | 106 => 75 | 111 => 71 | 113 => 64 | 114 => 77 | 119 => 79 | 127 => 110 | 131 => 53 | 137 => 80 | 138 => 81 | 139 => 82 | 146 => 84 | 150 => 68 | 151 => 85 | 164 => 116 | 171 => 87 | 172 => 90 | 173 => 91 | 174 => 92 | 211 => 93 | 212 => 94 | 213 => 95 | 232 => 98 | 233 => 99 | 238 => 101 | 239 => 102 | 240 => 103 | 241 => 104 | 242 => 105 | 243 => 107 | 244 => 108 | 245 => 109 | 246 => 111 | 247 => 112 | 248 => 113 | 249 => 114 | n => n, fun | 1 => 0 | 3 => 1 | 4 => 2 | 17 => 3 | 18 => 4 | 19 => 5 | n => n⟩
theorem lay_LaysM_n171 : LaysM.n171 Tryd.prog itRen where
  mixed := by kernel_rfl
  f129 := Tryd.func71.trans (congrArg some (by kernel_rfl))
  f171 := Tryd.func55.trans (congrArg some (by kernel_rfl))
  f243 := Tryd.func62.trans (congrArg some (by kernel_rfl))
  f246 := Tryd.func65.trans (congrArg some (by kernel_rfl))
  f283 := Tryd.func66.trans (congrArg some (by kernel_rfl))
  f284 := Tryd.func67.trans (congrArg some (by kernel_rfl))
  f285 := Tryd.func68.trans (congrArg some (by kernel_rfl))
  f286 := Tryd.func69.trans (congrArg some (by kernel_rfl))
  f317 := Tryd.func70.trans (congrArg some (by kernel_rfl))
  f318 := Tryd.func72.trans (congrArg some (by kernel_rfl))
  f319 := Tryd.func73.trans (congrArg some (by kernel_rfl))
  f320 := Tryd.func74.trans (congrArg some (by kernel_rfl))
  f337 := Tryd.func75.trans (congrArg some (by kernel_rfl))
  f338 := Tryd.func76.trans (congrArg some (by kernel_rfl))
  t0 := Tryd.underlying0
  a0 := Tryd.isAgg0
  z0 := Tryd.sizeOf0
  v0 := Tryd.zeroValue0
  t2 := Tryd.underlying2
  a2 := Tryd.isAgg2
  z2 := Tryd.sizeOf2
  v2 := Tryd.zeroValue2
  t3 := Tryd.underlying3
  a3 := Tryd.isAgg3
  z3 := Tryd.sizeOf3
  v3 := Tryd.zeroValue3
  t4 := Tryd.underlying4
  a4 := Tryd.isAgg4
  z4 := Tryd.sizeOf4
  v4 := Tryd.zeroValue4
  t5 := Tryd.underlying5
  a5 := Tryd.isAgg5
  z5 := Tryd.sizeOf5
  v5 := Tryd.zeroValue5
  t9 := Tryd.underlying9
  a9 := Tryd.isAgg9
  z9 := Tryd.sizeOf9
  v9 := Tryd.zeroValue9
  t20 := Tryd.underlying20
  a20 := Tryd.isAgg20
  z20 := Tryd.sizeOf20
  v20 := Tryd.zeroValue20
  t37 := Tryd.underlying63
  a37 := Tryd.isAgg63
  z37 := Tryd.sizeOf63
  v37 := Tryd.zeroValue63
  t46 := Tryd.underlying78
  a46 := Tryd.isAgg78
  z46 := Tryd.sizeOf78
  v46 := Tryd.zeroValue78
  t51 := Tryd.underlying83
  a51 := Tryd.isAgg83
  z51 := Tryd.sizeOf83
  v51 := Tryd.zeroValue83
  t53 := Tryd.underlying88
  a53 := Tryd.isAgg88
  z53 := Tryd.sizeOf88
  v53 := Tryd.zeroValue88
  t171 := Tryd.underlying87
  a171 := Tryd.isAgg87
  z171 := Tryd.sizeOf87
  v171 := Tryd.zeroValue87
  t173 := Tryd.underlying91
  a173 := Tryd.isAgg91
  z173 := Tryd.sizeOf91
  v173 := Tryd.zeroValue91
  t212 := Tryd.underlying94
  a212 := Tryd.isAgg94
  z212 := Tryd.sizeOf94
  v212 := Tryd.zeroValue94
  t213 := Tryd.underlying95
  a213 := Tryd.isAgg95
  z213 := Tryd.sizeOf95
  t232 := Tryd.underlying98
  a232 := Tryd.isAgg98
  z232 := Tryd.sizeOf98
  v232 := Tryd.zeroValue98
  t233 := Tryd.underlying99
  a233 := Tryd.isAgg99
  z233 := Tryd.sizeOf99
  v233 := Tryd.zeroValue99
  g17 := by kernel_rfl
  g18 := by kernel_rfl
  g19 := by kernel_rfl
  i0 := by kernel_rfl
  i2 := by kernel_rfl
  i3 := by kernel_rfl
  i4 := by kernel_rfl
  i5 := by kernel_rfl
  i9 := by kernel_rfl
  i20 := by kernel_rfl
  i37 := by kernel_rfl
  i46 := by kernel_rfl
  i51 := by kernel_rfl
  i53 := by kernel_rfl
  i171 := by kernel_rfl
  i173 := by kernel_rfl
  i212 := by kernel_rfl
  i232 := by kernel_rfl
  i233 := by kernel_rfl
  m17 := by kernel_rfl
  m18 := by kernel_rfl
  m19 := by kernel_rfl

theorem pow10G : ∃ g, Tryd.prog.globalNamed "internal/strconv.uint64pow10" = some g := ⟨_, lay_LaysM_n171.m17⟩
theorem doorT : doorB Tryd.prog = true := by
  obtain ⟨g, hg⟩ := pow10G
  unfold doorB; rw [hg]; rfl
def T_strconv_Itoa : Int → Option (List UInt8) := fun n => if -9223372036854775808 ≤ n ∧ n ≤ 9223372036854775807 then some (Lib.itoa n) else none
def fn_strconv_Itoa : TFn := ⟨55, [.cell (.int .i64)], [], [.cell .str], [], T_strconv_Itoa⟩
theorem itoa_ok (n : Int) (r : List UInt8) (hr : T_strconv_Itoa n = some r) :
    Ok Tryd.prog (itRen.f 171) [.lit (.int .i64 n)] fun v outs => v = .lit (.string (ba r)) ∧ Outs [] [] outs := by
  unfold T_strconv_Itoa at hr
  split at hr <;> try (cases hr; done)
  rename_i hn
  cases hr
  intro w S O vals htab hOS hOl hSl hrl
  obtain ⟨u, ur, F1, F2, rfl, l1, l2, d12, hu, hr2⟩ := hrl
  simp only [RV] at hu
  simp only [RL] at hr2
  subst hu; subst hr2
  obtain ⟨g, hg⟩ := pow10G
  obtain ⟨_, _, v, h3, h4⟩ := htab doorT _ _ (by exact List.mem_cons_self ..) g hg
  have hT : Lib.TabIs Tryd.prog w "internal/strconv.uint64pow10" .u64 Lib.pow10Tab := by
    unfold Lib.TabIs; rw [h3, h4]
  refine (Any.strconv_Itoa lay_LaysM_n171 n hn.1 hn.2 w hT).mono ?_
  rintro e w' ⟨rfl, k, os, rfl⟩
  have hp : Pres CS.none w (grow (w.drewN k) os) := ⟨rfl, rfl, by simp [grow, World.drewN], fun b o h => ⟨o, by
    have := heap_lt h
    simp only [grow, World.drewN]
    rw [Array.getElem?_append_left this]; exact h, .inl rfl⟩⟩
  refine ⟨⟨_, .lit (.string (ba (Lib.itoa n))), [.hole], S, CS.none, CS.none, rfl, ⟨rfl, ?_⟩, CS.le.refl _, CS.none_dj _, CS.none_dj _, CS.none_dj _, rfl, ?_, hp.mono (fun b x _ h => h.elim), ?_, ?_⟩⟩
  · intro j i v h1 h2; simp at h1
  · exact ⟨_, _, CS.none, CS.none, rfl, CS.le.refl _, CS.le.refl _, CS.none_dj _, trivial, rfl⟩
  · rintro k x (h | h) <;> exact h.elim
  · intro k x h
    exact ⟨.inl h, Nat.lt_of_lt_of_le (hSl _ _ h) hp.size⟩
theorem ok_strconv_Itoa : FnOk Tryd.prog fn_strconv_Itoa := ⟨by kernel_rfl, fun x r hr => itoa_ok x r hr⟩
end Xs
end YtceeeagdjphbnaaDoor
end Go.Proofs
