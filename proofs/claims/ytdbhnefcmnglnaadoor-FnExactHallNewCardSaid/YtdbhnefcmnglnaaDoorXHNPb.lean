/- What the reference's function answers, and the program's: the same. -/
import Derived.Test.YtdbhnefcmnglnaaDoorXHNPa
namespace Go.Proofs.YtdbhnefcmnglnaaDoor
open Go Vm
set_option linter.unusedVariables false
set_option linter.unusedSimpArgs false
namespace Xs
theorem fuelS : ∃ n, fuel = n + 9 := ⟨fuel - 9, by simp only [fuel]⟩
theorem x_RingOkL (a : Int) (b : List Int) (hb : b.length ≤ 1048576) : ∀ (j i n : Nat), i + j = b.length → j < n →
    ∃ r, L_spec_RingOk_1 n ((a, b), (i : Int)) = some r ∧ L_impl_RingOk_1 n ((a, b), b, (b.length : Int), (i : Int)) = some r
  | 0, i, n + 1, hi, hn => by
    refine ⟨.inl (), ?_, ?_⟩
    · rw [e_L_spec_RingOk_1]
      simp only [decide_eq_false (show ¬ ((i : Int) < (b.length : Int)) by omega), cond_false]
    · rw [e_L_impl_RingOk_1]
      simp only [decide_eq_false (show ¬ ((i : Int) < (b.length : Int)) by omega), cond_false]
  | j + 1, i, n + 1, hi, hn => by
    have hlt : i < b.length := by omega
    have hy : b[i]? = some b[i] := List.getElem?_eq_getElem hlt
    obtain ⟨r, h1, h2⟩ := x_RingOkL a b hb j (i + 1) n (by omega) (by omega)
    rw [show ((i + 1 : Nat) : Int) = (i : Int) + 1 by omega] at h1 h2
    rw [e_L_spec_RingOk_1, e_L_impl_RingOk_1]
    simp only [e_T_impl_isDaemon, decide_eq_true (show ((i : Int) < (b.length : Int)) by omega), cond_true, Int.natCast_nonneg, if_true, Int.toNat_natCast, hy, Option.bind_some, (x_inRange _ _ _).1, (x_inRange _ _ _).2, wrap_ok (n := (i : Int) + 1) (by omega) (by omega)]
    cases hd : decide (1 ≤ b[i] ∧ b[i] ≤ 5) with
    | false => exact ⟨.inr false, by simp, by simp⟩
    | true =>
      simp only [Bool.not_true, cond_false]
      by_cases h0 : 0 < i
      · have hp : b[i - 1]? = some b[i - 1] := List.getElem?_eq_getElem (by omega)
        simp only [decide_eq_true (show (0 : Int) < (i : Int) by omega), cond_true, wrap_ok (n := (i : Int) - 1) (by omega) (by omega), if_pos (show 0 ≤ (i : Int) - 1 by omega), show ((i : Int) - 1).toNat = i - 1 by omega, hp, Option.bind_some, Sum.elim_inl, wrap_ok (n := (i : Int) + 1) (by omega) (by omega)]
        cases decide (b[i] ≤ b[i - 1]) with
        | true => exact ⟨.inr false, rfl, rfl⟩
        | false => exact ⟨r, h1, h2⟩
      · simp only [decide_eq_false (show ¬ (0 : Int) < (i : Int) by omega), cond_false, Option.bind_some, Sum.elim_inl, wrap_ok (n := (i : Int) + 1) (by omega) (by omega)]
        exact ⟨r, h1, h2⟩
theorem x_RingOk (a : Int) (b : List Int) (hb : b.length ≤ 1048576) : ∃ r, T_spec_RingOk (a, b) = some r ∧ T_impl_RingOk (a, b) = some r := by
  obtain ⟨r, h1, h2⟩ := x_RingOkL a b hb b.length 0 fuel (by omega) (by simp only [fuel]; omega)
  rw [show ((0 : Nat) : Int) = 0 by rfl] at h1 h2
  rw [e_T_spec_RingOk, e_T_impl_RingOk]
  simp only [(x_inRange _ _ _).1, (x_inRange _ _ _).2, Option.bind_some]
  cases decide (1 ≤ a ∧ a ≤ 9) with
  | false => exact ⟨false, rfl, rfl⟩
  | true =>
    simp only [Bool.not_true, cond_false, Option.bind_some, Sum.elim_inl]
    cases decide (1 ≤ (b.length : Int) ∧ (b.length : Int) ≤ 5) with
    | false => exact ⟨false, rfl, rfl⟩
    | true =>
      simp only [Bool.not_true, cond_false, h1, h2, Option.bind_some]
      cases r with
      | inl u => exact ⟨true, rfl, rfl⟩
      | inr v => exact ⟨v, rfl, rfl⟩
theorem x_RingsOkL (a : List (Int × List Int)) (ha : a.length ≤ 1048576) (hm : ∀ y ∈ a, y.2.length ≤ 1048576) : ∀ (j i n : Nat), i + j = a.length → j < n →
    ∃ r, L_spec_RingsOk_1 n (a, (i : Int)) = some r ∧ L_impl_RingsOk_1 n (a, a, (a.length : Int), (i : Int)) = some r ∧ (r = .inl a ∨ ∃ v, r = .inr v)
  | 0, i, n + 1, hi, hn => by
    refine ⟨.inl a, ?_, ?_, .inl rfl⟩
    · rw [e_L_spec_RingsOk_1]
      simp only [decide_eq_false (show ¬ ((i : Int) < (a.length : Int)) by omega), cond_false]
    · rw [e_L_impl_RingsOk_1]
      simp only [decide_eq_false (show ¬ ((i : Int) < (a.length : Int)) by omega), cond_false]
  | j + 1, i, n + 1, hi, hn => by
    have hlt : i < a.length := by omega
    have hy : a[i]? = some a[i] := List.getElem?_eq_getElem hlt
    obtain ⟨r, h1, h2, h3⟩ := x_RingsOkL a ha hm j (i + 1) n (by omega) (by omega)
    rw [show ((i + 1 : Nat) : Int) = (i : Int) + 1 by omega] at h1 h2
    obtain ⟨q, q1, q2⟩ := x_RingOk a[i].1 a[i].2 (hm _ (List.getElem_mem hlt))
    rw [e_L_spec_RingsOk_1, e_L_impl_RingsOk_1]
    simp only [decide_eq_true (show ((i : Int) < (a.length : Int)) by omega), cond_true, Int.natCast_nonneg, if_true, Int.toNat_natCast, hy, Option.bind_some, q1, q2, wrap_ok (n := (i : Int) + 1) (by omega) (by omega)]
    cases q with
    | false => exact ⟨.inr false, rfl, rfl, .inr ⟨_, rfl⟩⟩
    | true =>
      simp only [Bool.not_true, cond_false, Option.bind_some, Sum.elim_inl, wrap_ok (n := (i : Int) + 1) (by omega) (by omega)]
      cases (!a[i].1 == (i : Int) + 1) with
      | true => exact ⟨.inr false, rfl, rfl, .inr ⟨_, rfl⟩⟩
      | false => exact ⟨r, h1, h2, h3⟩
theorem x_RingsOk (a : List (Int × List Int)) (ha : a.length ≤ 1048576) (hm : ∀ y ∈ a, y.2.length ≤ 1048576) : ∃ r, T_spec_RingsOk a = some r ∧ T_impl_RingsOk a = some r := by
  obtain ⟨r, h1, h2, h3⟩ := x_RingsOkL a ha hm a.length 0 fuel (by omega) (by simp only [fuel]; omega)
  rw [show ((0 : Nat) : Int) = 0 by rfl] at h1 h2
  rw [e_T_spec_RingsOk, e_T_impl_RingsOk, h1, h2]
  rcases h3 with rfl | ⟨v, rfl⟩
  · simp only [Option.bind_some, Sum.elim_inl, (x_inRange _ _ _).1, (x_inRange _ _ _).2]
    exact ⟨_, rfl, rfl⟩
  · exact ⟨v, rfl, rfl⟩
theorem x_CloneH {a : List Int} (h : a.length ≤ 1048576) : T_slices_Clone___int_int_ a = some a := by
  rw [e_T_slices_Clone___int_int_, if_pos ⟨by omega, by omega⟩]
  cases a with
  | nil => exact both_same
  | cons x l => rfl
theorem x_Rings15 {a : List (Int × List Int)} (ha : a.length ≤ 1048576) (hm : ∀ y ∈ a, y.2.length ≤ 1048576) : T_spec_l15Rings a = some a := by
  rw [e_T_spec_l15Rings]
  obtain ⟨s', h1, h2⟩ := loop_all (L := L_spec_l15Rings_1) a (fun s i => (a, s, i)) (fun s => s) (fun i s => s = a.take i) (fun i y s hy hi hs => by
    refine ⟨a.take (i + 1), rfl, fun n => ?_⟩
    have hlen : s.length ≤ i := by rw [hs]; simp; omega
    have hnext : a.take (i + 1) = s ++ [y] := by
      rw [hs, List.take_add_one, hy]; rfl
    have m1 := hm y (List.mem_of_getElem? hy)
    rw [e_L_spec_l15Rings_1, hnext]
    simp only [show ((i : Int) < (a.length : Int)) by omega, decide_true, cond_true, Int.natCast_nonneg, if_true, Int.toNat_natCast, hy, Option.bind_some, e_T_spec_l14CopyRing, if_pos (show (0 + y.2.length) * 8 ≤ 140737488355328 ∧ 0 + y.2.length ≤ 9223372036854775807 by omega), if_pos (show (s.length + 1) * 32 ≤ 140737488355328 ∧ s.length + 1 ≤ 9223372036854775807 by omega), List.append_eq, wrap_ok (n := (i : Int) + 1) (by omega) (by omega)]) (fun n s hs => by rw [e_L_spec_l15Rings_1]; simp) (by rw [maxLen_eq]; omega) [] (by simp)
  rw [h2, h1]; simp
theorem x_WorldI1 {a : List (Int × List Int)} (ha : a.length ≤ 1048576) (hm : ∀ y ∈ a, y.2.length ≤ 1048576) :
    L_impl_WorldNew_1 fuel (([], [], [], []), ([], [], [], []), a, (a.length : Int), 0) = some (.inl (([], [], [], []), (a, [], [], []))) := by
  obtain ⟨s', h1, h2⟩ := loop_all (L := L_impl_WorldNew_1) a (fun s i => (([], [], [], []), (s, [], [], []), a, (a.length : Int), i)) (fun s => (([], [], [], []), (s, [], [], []))) (fun i s => s = a.take i) (fun i y s hy hi hs => by
    refine ⟨a.take (i + 1), rfl, fun n => ?_⟩
    have hlen : s.length ≤ i := by rw [hs]; simp; omega
    have hnext : a.take (i + 1) = s ++ [y] := by
      rw [hs, List.take_add_one, hy]; rfl
    have m1 := hm y (List.mem_of_getElem? hy)
    rw [e_L_impl_WorldNew_1, hnext]
    simp only [show ((i : Int) < (a.length : Int)) by omega, decide_true, cond_true, Int.natCast_nonneg, if_true, Int.toNat_natCast, hy, Option.bind_some, e_T_impl_copyRing, x_CloneH m1, if_pos (show (s.length + 1) * 32 ≤ 140737488355328 ∧ s.length + 1 ≤ 9223372036854775807 by omega), List.append_eq, wrap_ok (n := (i : Int) + 1) (by omega) (by omega)]) (fun n s hs => by rw [e_L_impl_WorldNew_1]; simp) (by rw [maxLen_eq]; omega) [] (by simp)
  rw [h2, h1]; simp
abbrev DaemonU := Int × Bool × (Int × (Int × List Int) × List (Int × Int × Int × List UInt8) × List Int × List (List UInt8) × Int × Int × Int × Int × Int × Int × Int × Int × Int × List Int) × Int × Int × (Int × List Int) × List (Int × Int × Int × List (Int × Int × Int × List UInt8)) × List (Int × (Int × List Int) × (Int × Int × Int × List UInt8) × List Int)
def dz (i : Int) : DaemonU := (i, false, (0, (0, []), [], [], [], 0, 0, 0, 0, 0, 0, 0, 0, 0, []), 0, 0, (0, []), [], [])
theorem x_dz {i : Int} (h : 1 ≤ i ∧ i ≤ 5) : T_spec_DaemonNew i = some (dz i, true) ∧ T_impl_DaemonNew i = some (dz i, true) := by
  rw [e_T_spec_DaemonNew, e_T_impl_DaemonNew, e_T_impl_isDaemon, (x_inRange _ _ _).1, (x_inRange _ _ _).2, decide_eq_true h]
  exact ⟨rfl, rfl⟩
def dzs : List DaemonU := [dz 1, dz 2, dz 3, dz 4, dz 5]
theorem w_S1 {a : List (Int × List Int)} (n : Nat) (f : List DaemonU) (hf : f.length ≤ 100) {i : Int} (h : 1 ≤ i ∧ i ≤ 5) : L_spec_WorldNew_1 (n + 1) (([], [], [], []), (a, f, [], []), i) = L_spec_WorldNew_1 n (([], [], [], []), (a, f ++ [dz i], [], []), i + 1) := by
  rw [e_L_spec_WorldNew_1]
  simp only [decide_eq_true h.2, cond_true, (x_dz h).1, Option.bind_some, if_pos (show (f.length + 1) * 320 ≤ 140737488355328 ∧ f.length + 1 ≤ 9223372036854775807 by omega), List.append_eq, wrap_ok (n := i + 1) (by omega) (by omega)]
theorem w_I1 {a : List (Int × List Int)} (n : Nat) (f : List DaemonU) (hf : f.length ≤ 100) {i : Int} (h : 1 ≤ i ∧ i ≤ 5) : L_impl_WorldNew_2 (n + 1) (([], [], [], []), (a, f, [], []), i) = L_impl_WorldNew_2 n (([], [], [], []), (a, f ++ [dz i], [], []), i + 1) := by
  rw [e_L_impl_WorldNew_2]
  simp only [decide_eq_true h.2, cond_true, (x_dz h).2, Option.bind_some, if_pos (show (f.length + 1) * 320 ≤ 140737488355328 ∧ f.length + 1 ≤ 9223372036854775807 by omega), List.append_eq, wrap_ok (n := i + 1) (by omega) (by omega)]
theorem x_WorldS (a : List (Int × List Int)) : L_spec_WorldNew_1 fuel (([], [], [], []), (a, [], [], []), 1) = some (.inl (([], [], [], []), a, dzs, [], [])) := by
  obtain ⟨n, hn⟩ := fuelS
  rw [hn, w_S1 _ _ (by simp) (by omega), w_S1 _ _ (by simp) (by omega), w_S1 _ _ (by simp) (by omega), w_S1 _ _ (by simp) (by omega), w_S1 _ _ (by simp) (by omega), e_L_spec_WorldNew_1]
  rfl
theorem x_WorldI (a : List (Int × List Int)) : L_impl_WorldNew_2 fuel (([], [], [], []), (a, [], [], []), 1) = some (.inl (([], [], [], []), a, dzs, [], [])) := by
  obtain ⟨n, hn⟩ := fuelS
  rw [hn, w_I1 _ _ (by simp) (by omega), w_I1 _ _ (by simp) (by omega), w_I1 _ _ (by simp) (by omega), w_I1 _ _ (by simp) (by omega), w_I1 _ _ (by simp) (by omega), e_L_impl_WorldNew_2]
  rfl
theorem x_WorldNew {a : List (Int × List Int)} (ha : a.length ≤ 1048576) (hm : ∀ y ∈ a, y.2.length ≤ 1048576) :
    (T_spec_WorldNew a = some (([], [], [], []), false) ∧ T_impl_WorldNew a = some (([], [], [], []), false)) ∨ (T_spec_WorldNew a = some ((a, dzs, [], []), true) ∧ T_impl_WorldNew a = some ((a, dzs, [], []), true)) := by
  obtain ⟨r, h1, h2⟩ := x_RingsOk a ha hm
  rw [e_T_spec_WorldNew, e_T_impl_WorldNew, h1, h2]
  cases r with
  | false => exact .inl ⟨rfl, rfl⟩
  | true =>
    refine .inr ?_
    simp only [Option.bind_some, Bool.not_true, cond_false, x_Rings15 ha hm, x_WorldI1 ha hm, x_WorldS, x_WorldI, Sum.elim_inl, and_self]
abbrev CallerU := (Int × List UInt8 × (List UInt8 × Bool) × Bool × List (List UInt8)) × (List UInt8 × List (List UInt8) × Bool) × List UInt8 × List (List UInt8)
def cz (i : Int) : CallerU := ((i.tmod 2 + 1, [], ([], false), false, []), ([99] ++ Lib.itoa i, [], false), [], [])
def czs : List CallerU := [cz 1, cz 2, cz 3, cz 4]
abbrev WorldU := List (Int × List Int) × List DaemonU × List (Int × Int × Int × (Int × Int × Int × List UInt8) × (Int × Int × Int × Int × Int × List Int) × Int × Int × Int × List (Int × Int × Int × List UInt8)) × List (Int × (Int × List Int) × (Int × Int × Int × List UInt8) × List Int)
abbrev HallU := WorldU × List CallerU × List (List (List UInt8 × List (List UInt8))) × List Int
def h0 : HallU := (([], [], [], []), [], [], [])
theorem c_S1 {a : List (Int × List Int)} {b : List DaemonU} (n : Nat) (f : List CallerU) (m : List (List (List UInt8 × List (List UInt8)))) (o : List Int) (hf : f.length ≤ 100) {i : Int} (h : 1 ≤ i ∧ i ≤ 4) : L_spec_HallNew_1 (n + 1) ((([], [], [], []), [], [], []), ((a, b, [], []), f, m, o), i) = L_spec_HallNew_1 n ((([], [], [], []), [], [], []), ((a, b, [], []), f ++ [cz i], m, o), i + 1) := by
  have hl := itoa_len (a := i) (by omega) (by omega)
  rw [e_L_spec_HallNew_1]
  simp only [decide_eq_true h.2, cond_true, v_Decimal (a := i) (by omega) (by omega), Option.bind_some, if_neg (show ¬ ((1 + (Lib.itoa i).length : Nat) : Int) > 9223372036854775807 by omega), if_pos (show (f.length + 1) * 168 ≤ 140737488355328 ∧ f.length + 1 ≤ 9223372036854775807 by omega), List.append_eq, wrap_ok (n := i + 1) (by omega) (by omega)]
  have t1 := Int.tmod_lt_of_pos i (show (0 : Int) < 2 by omega)
  have t2 := Int.tmod_nonneg 2 (show 0 ≤ i by omega)
  rw [wrap_ok (n := i.tmod 2 + 1) (by omega) (by omega)]
  rfl
theorem c_I1 {a : List (Int × List Int)} {b : List DaemonU} (n : Nat) (f : List CallerU) (m : List (List (List UInt8 × List (List UInt8)))) (o : List Int) (hf : f.length ≤ 100) {i : Int} (h : 1 ≤ i ∧ i ≤ 4) : L_impl_HallNew_1 (n + 1) ((([], [], [], []), [], [], []), ((a, b, [], []), f, m, o), i) = L_impl_HallNew_1 n ((([], [], [], []), [], [], []), ((a, b, [], []), f ++ [cz i], m, o), i + 1) := by
  have hl := itoa_len (a := i) (by omega) (by omega)
  rw [e_L_impl_HallNew_1]
  simp only [decide_eq_true h.2, cond_true, v_implDecimal (a := i) (by omega) (by omega), Option.bind_some, if_neg (show ¬ ((1 + (Lib.itoa i).length : Nat) : Int) > 9223372036854775807 by omega), if_pos (show (f.length + 1) * 168 ≤ 140737488355328 ∧ f.length + 1 ≤ 9223372036854775807 by omega), List.append_eq, wrap_ok (n := i + 1) (by omega) (by omega)]
  have t1 := Int.tmod_lt_of_pos i (show (0 : Int) < 2 by omega)
  have t2 := Int.tmod_nonneg 2 (show 0 ≤ i by omega)
  rw [wrap_ok (n := i.tmod 2 + 1) (by omega) (by omega)]
  rfl
theorem c_S2 {a : List (Int × List Int)} {b : List DaemonU} (n : Nat) (f : List CallerU) (m : List (List (List UInt8 × List (List UInt8)))) (o : List Int) (hm : m.length ≤ 100) (ho : o.length ≤ 100) {i : Int} (h : 1 ≤ i ∧ i ≤ 5) : L_spec_HallNew_2 (n + 1) ((([], [], [], []), [], [], []), ((a, b, [], []), f, m, o), i) = L_spec_HallNew_2 n ((([], [], [], []), [], [], []), ((a, b, [], []), f, m ++ [[]], o ++ [0]), i + 1) := by
  rw [e_L_spec_HallNew_2]
  simp only [decide_eq_true h.2, cond_true, if_pos (show (m.length + 1) * 24 ≤ 140737488355328 ∧ m.length + 1 ≤ 9223372036854775807 by omega), if_pos (show (o.length + 1) * 8 ≤ 140737488355328 ∧ o.length + 1 ≤ 9223372036854775807 by omega), List.append_eq, wrap_ok (n := i + 1) (by omega) (by omega)]
  rfl
def hz (a : List (Int × List Int)) : HallU := ((a, dzs, [], []), czs, [[], [], [], [], []], [0, 0, 0, 0, 0])
theorem x_HallS1 (a : List (Int × List Int)) : L_spec_HallNew_1 fuel ((([], [], [], []), [], [], []), ((a, dzs, [], []), [], [], []), 1) = some (.inl ((([], [], [], []), [], [], []), (a, dzs, [], []), czs, [], [])) := by
  obtain ⟨n, hn⟩ := fuelS
  rw [hn, c_S1 _ _ _ _ (by simp) (by omega), c_S1 _ _ _ _ (by simp) (by omega), c_S1 _ _ _ _ (by simp) (by omega), c_S1 _ _ _ _ (by simp) (by omega), e_L_spec_HallNew_1]
  rfl
theorem x_HallI1 (a : List (Int × List Int)) : L_impl_HallNew_1 fuel ((([], [], [], []), [], [], []), ((a, dzs, [], []), [], [[], [], [], [], []], [0, 0, 0, 0, 0]), 1) = some (.inl ((([], [], [], []), [], [], []), (a, dzs, [], []), czs, [[], [], [], [], []], [0, 0, 0, 0, 0])) := by
  obtain ⟨n, hn⟩ := fuelS
  rw [hn, c_I1 _ _ _ _ (by simp) (by omega), c_I1 _ _ _ _ (by simp) (by omega), c_I1 _ _ _ _ (by simp) (by omega), c_I1 _ _ _ _ (by simp) (by omega), e_L_impl_HallNew_1]
  rfl
theorem x_HallS2 (a : List (Int × List Int)) : L_spec_HallNew_2 fuel ((([], [], [], []), [], [], []), ((a, dzs, [], []), czs, [], []), 1) = some (.inl ((([], [], [], []), [], [], []), (a, dzs, [], []), czs, [[], [], [], [], []], [0, 0, 0, 0, 0])) := by
  obtain ⟨n, hn⟩ := fuelS
  rw [hn, c_S2 _ _ _ _ (by simp) (by simp) (by omega), c_S2 _ _ _ _ (by simp) (by simp) (by omega), c_S2 _ _ _ _ (by simp) (by simp) (by omega), c_S2 _ _ _ _ (by simp) (by simp) (by omega), c_S2 _ _ _ _ (by simp) (by simp) (by omega), e_L_spec_HallNew_2]
  rfl
theorem x_HallNew {a : List (Int × List Int)} (ha : a.length ≤ 1048576) (hm : ∀ y ∈ a, y.2.length ≤ 1048576) :
    ∃ (h : HallU) (b : Bool), T_spec_HallNew a = some (h, b) ∧ T_impl_HallNew a = some (h, b) ∧ (h = h0 ∨ h = hz a) := by
  rw [e_T_spec_HallNew, e_T_impl_HallNew]
  rcases x_WorldNew ha hm with ⟨h1, h2⟩ | ⟨h1, h2⟩
  · rw [h1, h2]
    exact ⟨h0, false, rfl, rfl, .inl rfl⟩
  · rw [h1, h2]
    refine ⟨hz a, true, ?_, ?_, .inr rfl⟩
    · simp only [Option.bind_some, Bool.not_true, cond_false, x_HallS1, x_HallS2, Sum.elim_inl]
      rfl
    · simp only [Option.bind_some, Bool.not_true, cond_false]
      rw [show (Int.ofNat 0) = 0 from rfl, x_HallI1]
      rfl
end Xs
end Go.Proofs.YtdbhnefcmnglnaaDoor
