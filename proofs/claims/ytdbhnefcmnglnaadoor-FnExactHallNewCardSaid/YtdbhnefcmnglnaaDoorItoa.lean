/- strconv.Itoa, as the machine needs it: the figures, and that nothing turns. -/
import Derived.Test.YtdbhnefcmnglnaaDoorT7
import Derived.Test.YtdbhnefcmnglnaaDoorProg
import Derived.KernelRfl
import Derived.Shelf.Strconv.Itoa3
namespace Go.Proofs
open Go Go.Shelf Go.RowKit Go.Sort
namespace YtdbhnefcmnglnaaDoor
open Vm
namespace Xs
set_option linter.unusedVariables false
set_option linter.unusedSimpArgs false
def itRen : Ren := ⟨fun | 0 => 0 | 1 => 1 | 2 => 2 | 129 => 92 | 171 => 41 | 243 => 66 | 246 => 78 | 283 => 86 | 284 => 87 | 285 => 88 | 286 => 89 | 317 => 91 | 318 => 93 | 319 => 94 | 320 => 95 | 337 => 96 | 338 => 97 | 347 => 98 | 348 => 99 | 349 => 100 | 350 => 101 | 351 => 102 | 352 => 103 | 353 => 104 | 354 => 105 | 355 => 106 | 356 => 107 | 357 => 108 | 358 => 109 | 359 => 110 | 360 => 111 | 361 => 112 | 366 => 116 | 367 => 122 | n => n, fun | 0 => 0 | 1 => 1 | 2 => 2 | 3 => 3 | 4 => 4 | 5 => 5 | 6 => 6 | 7 => 7 | 8 => 8 | 9 => 9 | 10 => 10 | 11 => 11 | 12 => 12 | 13 => 13 | 14 => 14 | 15 => 15 | 16 => 16 | 17 => 17 | 18 => 18 | 19 => 19 | 20 => 20 | 21 => 21 | 28 => 32 | 30 => 68 | 31 => 50 | 34 => 66 | 37 => 85 | 46 => 140 | 47 => 141 | 51 => 138 | 52 => 142 | 53 => 129 | 54 => 130 | 80 => 145 | 81 => 151 | 83 => 53 | 84 => 120 | 101 => 114 | 111 => 100 | 114 => 135 | 127 => 155 | 164 => 161 | 171 => 128 | 172 => 131 | 173 => 132 | 174 => 133 | 211 => 136 | 212 => 137 | 213 => 139 | 232 => 143 | 233 => 144 | 238 => 146 | 239 => 147 | 240 => 148 | 241 => 149 | 242 => 150 | 243 => 152 | 244 => 153 | 245 => 154 | 246 => 156 | 247 => 157 | 248 => 158 | 249 => 159 | n => n, fun | 17 => 0 | 18 => 1 | 19 => 2 | n => n⟩
theorem lay_LaysM_n171 : LaysM.n171 Tryd.prog itRen where
  mixed := by kernel_rfl
  f129 := Tryd.func92.trans (congrArg some (by kernel_rfl))
  f171 := Tryd.func41.trans (congrArg some (by kernel_rfl))
  f243 := Tryd.func66.trans (congrArg some (by kernel_rfl))
  f246 := Tryd.func78.trans (congrArg some (by kernel_rfl))
  f283 := Tryd.func86.trans (congrArg some (by kernel_rfl))
  f284 := Tryd.func87.trans (congrArg some (by kernel_rfl))
  f285 := Tryd.func88.trans (congrArg some (by kernel_rfl))
  f286 := Tryd.func89.trans (congrArg some (by kernel_rfl))
  f317 := Tryd.func91.trans (congrArg some (by kernel_rfl))
  f318 := Tryd.func93.trans (congrArg some (by kernel_rfl))
  f319 := Tryd.func94.trans (congrArg some (by kernel_rfl))
  f320 := Tryd.func95.trans (congrArg some (by kernel_rfl))
  f337 := Tryd.func96.trans (congrArg some (by kernel_rfl))
  f338 := Tryd.func97.trans (congrArg some (by kernel_rfl))
  t0 := Tryd.underlying0
  a0 := Tryd.isAgg0
  z0 := Tryd.sizeOf0
  v0 := Tryd.zeroValue0
  t2 := Tryd.underlying2
  a2 := Tryd.isAgg2
  z2 := Tryd.sizeOf2
  v2 := Tryd.zeroValue2
  t3 := Tryd.underlying3
  a3 := Tryd.isAgg3
  z3 := Tryd.sizeOf3
  v3 := Tryd.zeroValue3
  t4 := Tryd.underlying4
  a4 := Tryd.isAgg4
  z4 := Tryd.sizeOf4
  v4 := Tryd.zeroValue4
  t5 := Tryd.underlying5
  a5 := Tryd.isAgg5
  z5 := Tryd.sizeOf5
  v5 := Tryd.zeroValue5
  t9 := Tryd.underlying9
  a9 := Tryd.isAgg9
  z9 := Tryd.sizeOf9
  v9 := Tryd.zeroValue9
  t20 := Tryd.underlying20
  a20 := Tryd.isAgg20
  z20 := Tryd.sizeOf20
  v20 := Tryd.zeroValue20
  t37 := Tryd.underlying85
  a37 := Tryd.isAgg85
  z37 := Tryd.sizeOf85
  v37 := Tryd.zeroValue85
  t46 := Tryd.underlying140
  a46 := Tryd.isAgg140
  z46 := Tryd.sizeOf140
  v46 := Tryd.zeroValue140
  t51 := Tryd.underlying138
  a51 := Tryd.isAgg138
  z51 := Tryd.sizeOf138
  v51 := Tryd.zeroValue138
  t53 := Tryd.underlying129
  a53 := Tryd.isAgg129
  z53 := Tryd.sizeOf129
  v53 := Tryd.zeroValue129
  t171 := Tryd.underlying128
  a171 := Tryd.isAgg128
  z171 := Tryd.sizeOf128
  v171 := Tryd.zeroValue128
  t173 := Tryd.underlying132
  a173 := Tryd.isAgg132
  z173 := Tryd.sizeOf132
  v173 := Tryd.zeroValue132
  t212 := Tryd.underlying137
  a212 := Tryd.isAgg137
  z212 := Tryd.sizeOf137
  v212 := Tryd.zeroValue137
  t213 := Tryd.underlying139
  a213 := Tryd.isAgg139
  z213 := Tryd.sizeOf139
  t232 := Tryd.underlying143
  a232 := Tryd.isAgg143
  z232 := Tryd.sizeOf143
  v232 := Tryd.zeroValue143
  t233 := Tryd.underlying144
  a233 := Tryd.isAgg144
  z233 := Tryd.sizeOf144
  v233 := Tryd.zeroValue144
  g17 := by kernel_rfl
  g18 := by kernel_rfl
  g19 := by kernel_rfl
  i0 := by kernel_rfl
  i2 := by kernel_rfl
  i3 := by kernel_rfl
  i4 := by kernel_rfl
  i5 := by kernel_rfl
  i9 := by kernel_rfl
  i20 := by kernel_rfl
  i37 := by kernel_rfl
  i46 := by kernel_rfl
  i51 := by kernel_rfl
  i53 := by kernel_rfl
  i171 := by kernel_rfl
  i173 := by kernel_rfl
  i212 := by kernel_rfl
  i232 := by kernel_rfl
  i233 := by kernel_rfl
  m17 := by kernel_rfl
  m18 := by kernel_rfl
  m19 := by kernel_rfl

theorem pow10G : ∃ g, Tryd.prog.globalNamed "internal/strconv.uint64pow10" = some g := ⟨_, lay_LaysM_n171.m17⟩
theorem doorT : doorB Tryd.prog = true := by
  obtain ⟨g, hg⟩ := pow10G
  unfold doorB; rw [hg]; rfl
def T_strconv_Itoa : Int → Option (List UInt8) := fun n => if -9223372036854775808 ≤ n ∧ n ≤ 9223372036854775807 then some (Lib.itoa n) else none
def fn_strconv_Itoa : TFn := ⟨41, [.cell (.int .i64)], [], [.cell .str], [], T_strconv_Itoa⟩
theorem itoa_ok (n : Int) (r : List UInt8) (hr : T_strconv_Itoa n = some r) :
    Ok Tryd.prog (itRen.f 171) [.lit (.int .i64 n)] fun v outs => v = .lit (.string (ba r)) ∧ Outs [] [] outs := by
  unfold T_strconv_Itoa at hr
  split at hr <;> try (cases hr; done)
  rename_i hn
  cases hr
  intro w S O vals htab hOS hOl hSl hrl
  obtain ⟨u, ur, F1, F2, rfl, l1, l2, d12, hu, hr2⟩ := hrl
  simp only [RV] at hu
  simp only [RL] at hr2
  subst hu; subst hr2
  obtain ⟨g, hg⟩ := pow10G
  obtain ⟨_, _, v, h3, h4⟩ := htab doorT _ _ (by exact List.mem_cons_self ..) g hg
  have hT : Lib.TabIs Tryd.prog w "internal/strconv.uint64pow10" .u64 Lib.pow10Tab := by
    unfold Lib.TabIs; rw [h3, h4]
  refine (Any.strconv_Itoa lay_LaysM_n171 n hn.1 hn.2 w hT).mono ?_
  rintro e w' ⟨rfl, k, os, rfl⟩
  have hp : Pres CS.none w (grow (w.drewN k) os) := ⟨rfl, rfl, by simp [grow, World.drewN], fun b o h => ⟨o, by
    have := heap_lt h
    simp only [grow, World.drewN]
    rw [Array.getElem?_append_left this]; exact h, .inl rfl⟩⟩
  refine ⟨⟨_, .lit (.string (ba (Lib.itoa n))), [.hole], S, CS.none, CS.none, rfl, ⟨rfl, ?_⟩, CS.le.refl _, CS.none_dj _, CS.none_dj _, CS.none_dj _, rfl, ?_, hp.mono (fun b x _ h => h.elim), ?_, ?_⟩⟩
  · intro j i v h1 h2; simp at h1
  · exact ⟨_, _, CS.none, CS.none, rfl, CS.le.refl _, CS.le.refl _, CS.none_dj _, trivial, rfl⟩
  · rintro k x (h | h) <;> exact h.elim
  · intro k x h
    exact ⟨.inl h, Nat.lt_of_lt_of_le (hSl _ _ h) hp.size⟩
theorem ok_strconv_Itoa : FnOk Tryd.prog fn_strconv_Itoa := ⟨by kernel_rfl, fun x r hr => itoa_ok x r hr⟩
end Xs
end YtdbhnefcmnglnaaDoor
end Go.Proofs
