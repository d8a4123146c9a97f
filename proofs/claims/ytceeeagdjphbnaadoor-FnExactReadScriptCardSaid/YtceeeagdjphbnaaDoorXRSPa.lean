/- What the reference's function answers, and the program's: the same. -/
import Derived.Test.YtceeeagdjphbnaaDoorT10
import Derived.Test.YtceeeagdjphbnaaDoorXRSE
namespace Go.Proofs.YtceeeagdjphbnaaDoor
open Go Vm
set_option linter.unusedVariables false
set_option linter.unusedSimpArgs false
namespace Xs
theorem q_eqIntS {a : (ET.sl false (.int .i64)).den} (h : (ET.sl false (.int .i64)).small a) : T_laws_eqIntS (a, a) = some true := by
  have h1 : a.length ≤ 1048576 := h.1
  rw [e_T_laws_eqIntS, eq_sl (L := L_laws_eqIntS_1) (Nat.le_trans h1 (by decide)) (fun n i y hy => ?_) (fun n => ?_)]
  · simp
  · have hlt := (List.getElem?_eq_some_iff.1 hy).1
    rw [e_L_laws_eqIntS_1]
    simp only [show ((i : Int) < (a.length : Int)) by omega, decide_true, cond_true, Int.natCast_nonneg, if_true, Int.toNat_natCast, hy, Option.bind_some, beq_self_eq_true, Bool.not_true, cond_false]
    rw [wrap_ok (by omega) (by omega)]
  · rw [e_L_laws_eqIntS_1]; simp
theorem q_eqRing {x : (ET.pair (.int .i64) (.sl false (.int .i64))).den} (h : (ET.pair (.int .i64) (.sl false (.int .i64))).small x) : T_laws_eqRing (x, x) = some true := by
  obtain ⟨a, b⟩ := x
  obtain ⟨h_a, h_b⟩ := h
  simp only [e_T_laws_eqRing, q_eqIntS h_b, Option.bind_some, beq_self_eq_true, Bool.not_true, cond_false]
theorem q_eqRingS {a : (ET.sl false (.pair (.int .i64) (.sl false (.int .i64)))).den} (h : (ET.sl false (.pair (.int .i64) (.sl false (.int .i64)))).small a) : T_laws_eqRingS (a, a) = some true := by
  have h1 : a.length ≤ 1048576 := h.1
  rw [e_T_laws_eqRingS, eq_sl (L := L_laws_eqRingS_1) (Nat.le_trans h1 (by decide)) (fun n i y hy => ?_) (fun n => ?_)]
  · simp
  · have hlt := (List.getElem?_eq_some_iff.1 hy).1
    rw [e_L_laws_eqRingS_1]
    simp only [show ((i : Int) < (a.length : Int)) by omega, decide_true, cond_true, Int.natCast_nonneg, if_true, Int.toNat_natCast, hy, Option.bind_some, beq_self_eq_true, Bool.not_true, cond_false, q_eqRing (h.2 y (List.mem_of_getElem? hy))]
    rw [wrap_ok (by omega) (by omega)]
  · rw [e_L_laws_eqRingS_1]; simp
theorem q_eqDeed {x : (ET.pair (.int .i64) (.pair (.int .i64) (.pair (.int .i64) (.pair (.int .i64) .str)))).den} (h : (ET.pair (.int .i64) (.pair (.int .i64) (.pair (.int .i64) (.pair (.int .i64) .str)))).small x) : T_laws_eqDeed (x, x) = some true := by
  obtain ⟨a, b, c, d, e⟩ := x
  obtain ⟨h_a, h_b, h_c, h_d, h_e⟩ := h
  simp only [e_T_laws_eqDeed, Option.bind_some, beq_self_eq_true, Bool.not_true, cond_false]
theorem q_eqDeedS {a : (ET.sl false (.pair (.int .i64) (.pair (.int .i64) (.pair (.int .i64) (.pair (.int .i64) .str))))).den} (h : (ET.sl false (.pair (.int .i64) (.pair (.int .i64) (.pair (.int .i64) (.pair (.int .i64) .str))))).small a) : T_laws_eqDeedS (a, a) = some true := by
  have h1 : a.length ≤ 1048576 := h.1
  rw [e_T_laws_eqDeedS, eq_sl (L := L_laws_eqDeedS_1) (Nat.le_trans h1 (by decide)) (fun n i y hy => ?_) (fun n => ?_)]
  · simp
  · have hlt := (List.getElem?_eq_some_iff.1 hy).1
    rw [e_L_laws_eqDeedS_1]
    simp only [show ((i : Int) < (a.length : Int)) by omega, decide_true, cond_true, Int.natCast_nonneg, if_true, Int.toNat_natCast, hy, Option.bind_some, beq_self_eq_true, Bool.not_true, cond_false, q_eqDeed (h.2 y (List.mem_of_getElem? hy))]
    rw [wrap_ok (by omega) (by omega)]
  · rw [e_L_laws_eqDeedS_1]; simp
theorem small_len {s : List UInt8} (h : ET.str.small s) : s.length ≤ maxLen := Nat.le_trans h (by decide)
theorem smallL_len {e : ET} {o : Bool} {s : List e.den} (h : (ET.sl o e).small s) : s.length ≤ maxLen := Nat.le_trans h.1 (by decide)
theorem x_inRange (a b c : Int) : T_spec_l01In (a, b, c) = some (decide (b ≤ a ∧ a ≤ c)) ∧ T_impl_inRange (a, b, c) = some (decide (b ≤ a ∧ a ≤ c)) := by
  rw [e_T_spec_l01In, e_T_impl_inRange]
  by_cases h : b ≤ a <;> simp [h]
/-- A number's bytes: seven bits each, the low ones first. -/
def vEnc (n : Nat) : List UInt8 := if 127 < n then UInt8.ofNat (n % 128 + 128) :: vEnc (n / 128) else [UInt8.ofNat n]
theorem vEnc_hi {n : Nat} (h : 127 < n) : vEnc n = UInt8.ofNat (n % 128 + 128) :: vEnc (n / 128) := by rw [vEnc, if_pos h]
theorem vEnc_lo {n : Nat} (h : n ≤ 127) : vEnc n = [UInt8.ofNat n] := by rw [vEnc, if_neg (by omega)]
theorem u8w {n : Int} (h0 : 0 ≤ n) (h1 : n < 256) : IntKind.u8.wrap n = n := by
  rw [IntKind.wrap_u8]; omega
theorem vEnc_len : ∀ n : Nat, (vEnc n).length ≤ n + 1 := by
  intro n
  induction n using Nat.strongRecOn with
  | _ n ih =>
    by_cases h : 127 < n
    · rw [vEnc_hi h]
      have := ih (n / 128) (by omega)
      simp only [List.length_cons]; omega
    · rw [vEnc_lo (by omega)]; simp
/-- A number off the front of bytes. -/
def rvS : Nat → Nat → Nat → Nat → List UInt8 → Option (Nat × Nat)
  | 0, _, _, _, _ => none
  | _ + 1, _, _, _, [] => none
  | k + 1, i, acc, m, c :: t => if c.toNat < 128 then (if (c.toNat = 0 ∧ 0 < i) ∨ 1000000000 < acc + c.toNat * m then none else some (acc + c.toNat * m, i + 1))
    else rvS k (i + 1) (acc + (c.toNat - 128) * m) (m * 128) t
/-- How it is told: the number, where it ends, whether it is right. -/
def outV (b : Nat) : Option (Nat × Nat) → Int × Int × Bool
  | none => (0, 0, false)
  | some (v, n) => ((v : Int), ((b + n : Nat) : Int), true)
theorem getD_at {a : List UInt8} {i : Nat} (h : i < a.length) : a.getD i 0 = a[i] := by simp [List.getD_eq_getElem?_getD, h]
theorem u8lt (c : UInt8) : c.toNat < 256 := c.toNat_lt
theorem rvS_bound : ∀ (k i acc m : Nat) (t : List UInt8) (v n : Nat), rvS k i acc m t = some (v, n) → v ≤ 1000000000 ∧ i < n ∧ n ≤ i + t.length
  | 0, _, _, _, _, _, _, h => by simp [rvS] at h
  | _ + 1, _, _, _, [], _, _, h => by simp [rvS] at h
  | k + 1, i, acc, m, c :: t, v, n, h => by
    simp only [rvS] at h
    split at h
    · split at h
      · cases h
      · cases h; simp; omega
    · have := rvS_bound k _ _ _ t v n h
      simp; omega
/-- What bytes tell, if they are right: the value of the bytes ahead of an end. -/
def vVal : List UInt8 → Nat
  | [] => 0
  | c :: t => c.toNat % 128 + 128 * vVal t
/-- Bytes that are a number's, but for the last one's being 0. -/
def vFit : List UInt8 → Prop
  | [] => False
  | [c] => c.toNat < 128
  | c :: t => 128 ≤ c.toNat ∧ vFit t
theorem vFit_cons {c : UInt8} {t : List UInt8} (h : t ≠ []) : vFit (c :: t) ↔ 128 ≤ c.toNat ∧ vFit t := by
  cases t with
  | nil => exact absurd rfl h
  | cons x l => exact Iff.rfl
theorem vEnc_ne (n : Nat) : vEnc n ≠ [] := by
  by_cases h : 127 < n
  · rw [vEnc_hi h]; simp
  · rw [vEnc_lo (by omega)]; simp
theorem byte_of {c : UInt8} {n : Nat} (h : c.toNat = n) : UInt8.ofNat n = c := by rw [← h]; simp
theorem vEnc_last : ∀ (n : Nat), ∃ l c, vEnc n = l ++ [c] ∧ (l ≠ [] → c.toNat ≠ 0) := by
  intro n
  induction n using Nat.strongRecOn with
  | _ n ih =>
    by_cases h : 127 < n
    · obtain ⟨l, c, h1, h2⟩ := ih (n / 128) (by omega)
      rw [vEnc_hi h]
      refine ⟨UInt8.ofNat (n % 128 + 128) :: l, c, by rw [h1]; rfl, fun _ => ?_⟩
      by_cases hl : l = []
      · subst hl
        by_cases h3 : 127 < n / 128
        · rw [vEnc_hi h3] at h1
          have := vEnc_ne (n / 128 / 128)
          simp at h1
          exact absurd h1.2 this
        · rw [vEnc_lo (by omega)] at h1
          simp at h1
          rw [← h1]
          simp; omega
      · exact h2 hl
    · rw [vEnc_lo (by omega)]
      exact ⟨[], _, rfl, fun h => absurd rfl h⟩
/-- Right bytes are those that their value's are. -/
theorem vEnc_val : ∀ (t : List UInt8), vFit t → (t.length = 1 ∨ t.getLast?.map UInt8.toNat ≠ some 0) → vEnc (vVal t) = t ∧ (1 < t.length → 0 < vVal t)
  | [], h, _ => h.elim
  | [c], h, _ => by
    have h' : c.toNat < 128 := h
    simp only [vVal, Nat.mul_zero, Nat.add_zero]
    rw [Nat.mod_eq_of_lt h', vEnc_lo (by omega)]
    exact ⟨by rw [byte_of rfl], fun h => by simp at h⟩
  | c :: d :: t, h, hl => by
    obtain ⟨h1, h2⟩ := (vFit_cons (by simp)).1 h
    have hl' : (d :: t).getLast?.map UInt8.toNat ≠ some 0 := by
      rcases hl with hl | hl
      · simp at hl
      · simpa using hl
    obtain ⟨h3, h4⟩ := vEnc_val (d :: t) h2 (.inr hl')
    have hp : 0 < vVal (d :: t) := by
      cases t with
      | nil =>
        simp at hl'
        have h5 : d.toNat < 128 := h2
        simp only [vVal]; omega
      | cons x l => exact h4 (by simp)
    have hc := u8lt c
    simp only [vVal] at hp ⊢
    rw [vEnc_hi (by omega)]
    refine ⟨?_, fun _ => by omega⟩
    rw [show (c.toNat % 128 + 128 * (d.toNat % 128 + 128 * vVal t)) / 128 = d.toNat % 128 + 128 * vVal t by omega]
    rw [show vEnc (d.toNat % 128 + 128 * vVal t) = d :: t from h3, byte_of (c := c) (by omega)]
theorem vEnc_fit : ∀ n : Nat, vFit (vEnc n) ∧ vVal (vEnc n) = n := by
  intro n
  induction n using Nat.strongRecOn with
  | _ n ih =>
    by_cases h : 127 < n
    · obtain ⟨h1, h2⟩ := ih (n / 128) (by omega)
      rw [vEnc_hi h]
      have hb : (UInt8.ofNat (n % 128 + 128)).toNat = n % 128 + 128 := by simp; omega
      refine ⟨(vFit_cons (vEnc_ne _)).2 ⟨by omega, h1⟩, ?_⟩
      simp only [vVal, h2, hb]; omega
    · rw [vEnc_lo (by omega)]
      have hb : (UInt8.ofNat n).toNat = n := by simp; omega
      refine ⟨by simp only [vFit, hb]; omega, ?_⟩
      simp only [vVal, hb]; omega
theorem vVal_app : ∀ (p : List UInt8) (c : UInt8), vVal (p ++ [c]) = vVal p + c.toNat % 128 * 128 ^ p.length
  | [], c => by simp [vVal]
  | x :: p, c => by
    simp only [List.cons_append, vVal, vVal_app p c, List.length_cons, Nat.pow_succ]
    rw [Nat.mul_add, Nat.add_assoc, Nat.mul_comm (128 ^ p.length) 128, ← Nat.mul_assoc, ← Nat.mul_assoc, Nat.mul_comm (c.toNat % 128) 128]
theorem vFit_app : ∀ (p : List UInt8) (c : UInt8), (∀ x ∈ p, 128 ≤ x.toNat) → c.toNat < 128 → vFit (p ++ [c])
  | [], c, _, h => h
  | x :: p, c, hp, h => by
    rw [List.cons_append]
    exact (vFit_cons (by simp)).2 ⟨hp x (by simp), vFit_app p c (fun y hy => hp y (by simp [hy])) h⟩
theorem v_canon {p : List UInt8} {c : UInt8} (hp : ∀ x ∈ p, 128 ≤ x.toNat) (hc : c.toNat < 128) : (vEnc (vVal (p ++ [c])) == p ++ [c]) = !decide (c.toNat = 0 ∧ 0 < p.length) := by
  by_cases h : c.toNat = 0 ∧ 0 < p.length
  · rw [decide_eq_true h]
    obtain ⟨l, d, h1, h2⟩ := vEnc_last (vVal (p ++ [c]))
    rw [Bool.not_true, beq_eq_false_iff_ne]
    intro he
    rw [h1] at he
    have h3 := List.append_inj' he rfl
    have h4 : d = c := by simpa using h3.2
    subst h4
    exact h2 (fun hl => by rw [h3.1] at hl; subst hl; simp at h) h.1
  · rw [decide_eq_false h]
    have := (vEnc_val (p ++ [c]) (vFit_app p c hp hc) (by
      by_cases hl : p = []
      · subst hl; exact .inl rfl
      · refine .inr ?_
        have : 0 < p.length := by cases p with | nil => exact absurd rfl hl | cons => simp
        simp; omega)).1
    rw [this]; simp
/-- What is read is what its number's bytes are. -/
theorem rvS_enc : ∀ (k i acc m : Nat) (t p : List UInt8), k + i = 5 → p.length = i → (∀ x ∈ p, 128 ≤ x.toNat) → acc = vVal p → m = 128 ^ i → ∀ v n, rvS k i acc m t = some (v, n) → ∃ q, t = q ++ t.drop (n - i) ∧ q.length = n - i ∧ p ++ q = vEnc v
  | 0, _, _, _, _, _, _, _, _, _, _, v, n, h => by simp [rvS] at h
  | _ + 1, _, _, _, [], _, _, _, _, _, _, v, n, h => by simp [rvS] at h
  | k + 1, i, acc, m, c :: t, p, hk, hpl, hp, hv, hm, v, n, h => by
    simp only [rvS] at h
    split at h
    · rename_i hs
      split at h
      · cases h
      · rename_i hz
        cases h
        refine ⟨[c], by simp, by simp, ?_⟩
        have h1 : vVal (p ++ [c]) = acc + c.toNat * m := by rw [vVal_app, Nat.mod_eq_of_lt hs, hpl, ← hm, hv]
        have h2 := v_canon hp hs
        rw [decide_eq_false (by rw [hpl]; omega), Bool.not_false, beq_iff_eq, h1] at h2
        exact h2.symm
    · rename_i hs
      have hc := u8lt c
      obtain ⟨q, h1, h2, h3⟩ := rvS_enc k (i + 1) _ _ t (p ++ [c]) (by omega) (by simp [hpl]) (fun x hx => by
        rcases List.mem_append.1 hx with hx | hx
        · exact hp x hx
        · simp at hx; subst hx; omega) (by rw [vVal_app, hpl, ← hm, hv, show c.toNat % 128 = c.toNat - 128 by omega]) (by rw [hm, Nat.pow_succ]) v n h
      have hn := (rvS_bound _ _ _ _ _ _ _ h).2.1
      refine ⟨c :: q, ?_, by simp; omega, by rw [← h3]; simp⟩
      rw [show n - i = (n - (i + 1)) + 1 by omega, List.drop_succ_cons, List.cons_append, ← h1]
theorem v_fig {r : Nat} (h : r < 10) : T_spec_l01Figure (r : Int) = some ((48 + r : Nat) : Int) := by
  rw [e_T_spec_l01Figure, decide_eq_true (by omega), cond_true, wrap_ok (by omega) (by omega), u8w (by omega) (by omega)]
  simp only [Option.some.injEq]; omega
theorem digs_len : ∀ (k u : Nat), u < 10 ^ (k + 1) → (Lib.decDigits u).length ≤ k + 1
  | 0, u, h => by rw [Lib.decDigits, dif_pos (by simpa using h)]; simp
  | k + 1, u, h => by
    rw [Lib.decDigits]
    split
    · simp
    · have := digs_len k (u / 10) (by rw [Nat.pow_succ] at h; omega)
      rw [List.length_append, List.length_singleton]; omega
theorem itoa_len {a : Int} (h0 : -9223372036854775808 ≤ a) (h1 : a ≤ 9223372036854775807) : (Lib.itoa a).length ≤ 20 := by
  have hp : (10 : Nat) ^ 19 = 10000000000000000000 := by decide
  unfold Lib.itoa
  split
  · have := digs_len 18 a.natAbs (by omega)
    rw [List.length_cons]; omega
  · have := digs_len 18 a.toNat (by omega)
    omega
theorem l_dec : ∀ (k n : Nat) (a : Int) (neg : Bool) (acc : List UInt8), a.natAbs < 10 ^ k → k ≤ 19 → k < n → acc.length + k ≤ 1000 → L_spec_Decimal_1 n (a, neg, acc) = some (.inl (neg, (if a.natAbs = 0 then [] else Lib.decDigits a.natAbs) ++ acc))
  | k, n, a, neg, acc, ha, hk, hn, hl => by
    obtain ⟨n, rfl⟩ : ∃ j, n = j + 1 := ⟨n - 1, by omega⟩
    rw [e_L_spec_Decimal_1]
    by_cases h0 : a = 0
    · subst h0; rfl
    · have hne : (a == 0) = false := beq_eq_false_iff_ne.2 h0
      obtain ⟨k, rfl⟩ : ∃ j, k = j + 1 := ⟨k - 1, by
        cases k with
        | zero => simp at ha; omega
        | succ k => omega⟩
      have hp : (10 : Nat) ^ (k + 1) ≤ 10 ^ 19 := Nat.pow_le_pow_right (by decide) hk
      have hp2 : (10 : Nat) ^ 19 = 10000000000000000000 := by decide
      have hu : a.natAbs / 10 < 10 ^ k := by rw [Nat.pow_succ] at ha; omega
      have hdig : (bif decide (a.tmod 10 < 0) then some (Sum.inl (a, neg, acc, IntKind.i64.wrap (0 - a.tmod 10))) else some (Sum.inl (a, neg, acc, a.tmod 10))) = (some (Sum.inl (a, neg, acc, ((a.natAbs % 10 : Nat) : Int))) : Option ((Int × Bool × List UInt8 × Int) ⊕ ((Bool × List UInt8) ⊕ (List UInt8)))) := by
        by_cases hs : 0 ≤ a
        · obtain ⟨u, rfl⟩ : ∃ u : Nat, a = (u : Int) := ⟨a.toNat, by omega⟩
          rw [Int.tmod_eq_emod_of_nonneg (by omega), decide_eq_false (by omega), cond_false]
          have : ((u : Int) % 10) = (((u : Int).natAbs % 10 : Nat) : Int) := by omega
          rw [this]
        · obtain ⟨u, rfl⟩ : ∃ u : Nat, a = -(u : Int) := ⟨a.natAbs, by omega⟩
          rw [Int.neg_tmod, Int.tmod_eq_emod_of_nonneg (by omega)]
          have e1 : (((-(u : Int)).natAbs % 10 : Nat) : Int) = (u : Int) % 10 := by omega
          rw [e1]
          by_cases hz : (u : Int) % 10 = 0
          · rw [hz]; rfl
          · rw [decide_eq_true (by omega), cond_true, wrap_ok (by omega) (by omega)]
            have : (0 : Int) - -((u : Int) % 10) = (u : Int) % 10 := by omega
            rw [this]
      have hdiv : (IntKind.i64.wrap (a.tdiv 10)).natAbs = a.natAbs / 10 ∧ IntKind.i64.wrap (a.tdiv 10) = a.tdiv 10 := by
        by_cases hs : 0 ≤ a
        · rw [Int.tdiv_eq_ediv_of_nonneg hs, wrap_ok (by omega) (by omega)]
          exact ⟨by omega, rfl⟩
        · obtain ⟨u, rfl⟩ : ∃ u : Nat, a = -(u : Int) := ⟨a.natAbs, by omega⟩
          rw [Int.neg_tdiv, Int.tdiv_eq_ediv_of_nonneg (by omega), wrap_ok (by omega) (by omega)]
          exact ⟨by omega, rfl⟩
      rw [hne]
      simp only [Bool.not_false, cond_true]
      rw [hdig]
      simp only [Option.bind_some, Sum.elim_inl, v_fig (Nat.mod_lt _ (by decide)), List.map_cons, List.map_nil, List.length_singleton, Int.toNat_natCast]
      rw [if_neg (by omega), l_dec k n _ neg _ (by rw [hdiv.1]; exact hu) (by omega) (by omega) (by simp; omega), hdiv.1]
      simp only [Option.some.injEq, Sum.inl.injEq, Prod.mk.injEq, true_and]
      rw [if_neg (show ¬ a.natAbs = 0 by omega), show Lib.decDigits a.natAbs = (if h : a.natAbs < 10 then [UInt8.ofNat (48 + a.natAbs)] else Lib.decDigits (a.natAbs / 10) ++ [UInt8.ofNat (48 + a.natAbs % 10)]) from by rw [Lib.decDigits]]
      by_cases h10 : a.natAbs < 10
      · rw [dif_pos h10, if_pos (by omega), Nat.mod_eq_of_lt h10]; rfl
      · rw [dif_neg h10, if_neg (by omega), List.append_assoc]
theorem v_Decimal {a : Int} (h0 : -9223372036854775808 ≤ a) (h1 : a ≤ 9223372036854775807) : T_spec_Decimal a = some (Lib.itoa a) := by
  rw [e_T_spec_Decimal]
  by_cases hz : a = 0
  · subst hz
    have : Lib.itoa 0 = [48] := by unfold Lib.itoa; rw [if_neg (by decide)]; exact Lib.decDigits_one (i := 0) (by decide)
    rw [this]; rfl
  · have hne : (a == 0) = false := beq_eq_false_iff_ne.2 hz
    have hp2 : (10 : Nat) ^ 19 = 10000000000000000000 := by decide
    have hlen := itoa_len h0 h1
    rw [hne, cond_false, l_dec 19 fuel a _ [] (by omega) (by omega) (by simp only [fuel]; omega) (by simp), if_neg (by omega)]
    simp only [Option.bind_some, Sum.elim_inl, List.append_nil]
    unfold Lib.itoa at hlen ⊢
    by_cases hs : a < 0
    · rw [if_pos hs] at hlen ⊢
      rw [List.length_cons] at hlen
      rw [decide_eq_true hs, cond_true, if_neg (by omega)]; rfl
    · rw [decide_eq_false hs, cond_false, if_neg hs]
      have : a.natAbs = a.toNat := by omega
      rw [this]
theorem v_implDecimal {a : Int} (h0 : -9223372036854775808 ≤ a) (h1 : a ≤ 9223372036854775807) : T_impl_Decimal a = some (Lib.itoa a) := by
  rw [e_T_impl_Decimal, T_strconv_Itoa, if_pos ⟨h0, h1⟩]; rfl
/-- A text parted at a byte: what is read of the present part, and the rest. -/
def splG (c : UInt8) : List UInt8 → List UInt8 → List (List UInt8)
  | cur, [] => [cur]
  | cur, x :: s => if x = c then cur :: splG c [] s else splG c (cur ++ [x]) s
theorem ix_hitc (c : UInt8) : ∀ (p q : List UInt8), (∀ y ∈ p, y ≠ c) → Lib.index (p ++ c :: q) [c] = (p.length : Int)
  | [], q, _ => by rw [List.nil_append, Lib.index]; simp [List.isPrefixOf]
  | b :: p, q, h => by
    have hb : ¬ b = c := h b (by simp)
    have hp : ([c] : List UInt8).isPrefixOf (b :: (p ++ c :: q)) = false := by simp [List.isPrefixOf, Ne.symm hb]
    have ih := ix_hitc c p q (fun y hy => h y (by simp [hy]))
    rw [List.cons_append, Lib.index, hp, ih]
    have : ¬ ((p.length : Int) == -1) = true := fun e => by have := beq_iff_eq.1 e; omega
    simp only [Bool.false_eq_true, if_false, this, List.length_cons]
    omega
theorem splK_G (c : UInt8) : ∀ (s p : List UInt8), (∀ y ∈ p, y ≠ c) → splK c (Lib.count (p ++ s) [c]) (p ++ s) = splG c p s
  | [], p, h => by
    rw [List.append_nil, Lib.count_one, List.count_eq_zero.2 (fun hc => h c hc rfl)]; rfl
  | x :: s, p, h => by
    by_cases hx : x = c
    · subst hx
      have hc : Lib.count (p ++ x :: s) [x] = Lib.count s [x] + 1 := by
        rw [Lib.count_one, Lib.count_one, List.count_append, List.count_eq_zero.2 (fun hc => h x hc rfl), List.count_cons_self]; omega
      have hne : ¬ ((p.length : Int) == -1) = true := fun e => by have := beq_iff_eq.1 e; omega
      have ih := splK_G x s [] (fun y hy => by cases hy)
      rw [List.nil_append] at ih
      rw [hc, splK, ix_hitc x p s h, if_neg hne, splG, if_pos rfl, Int.toNat_natCast, List.take_left' rfl, ← ih]
      congr 2
      rw [← List.drop_drop, List.drop_left' rfl]; rfl
    · have ih := splK_G c s (p ++ [x]) (fun y hy => by
        rcases List.mem_append.1 hy with hy | hy
        · exact h y hy
        · rw [List.mem_singleton.1 hy]; exact hx)
      rw [List.append_assoc, List.singleton_append] at ih
      rw [ih, splG, if_neg hx]
theorem x_Split {a : List UInt8} (c : UInt8) (ha : a.length ≤ 1048576) : T_strings_Split (a, [c]) = some (splG c [] a) := by
  have h := splK_G c a [] (fun y hy => by cases hy)
  rw [List.nil_append] at h
  unfold T_strings_Split
  simp only
  rw [if_pos (by omega), h]
def initG (c : UInt8) : List UInt8 → List UInt8 → List (List UInt8)
  | _, [] => []
  | cur, x :: s => if x = c then cur :: initG c [] s else initG c (cur ++ [x]) s
def lastG (c : UInt8) : List UInt8 → List UInt8 → List UInt8
  | cur, [] => cur
  | cur, x :: s => if x = c then lastG c [] s else lastG c (cur ++ [x]) s
theorem splG_il (c : UInt8) : ∀ (s cur : List UInt8), splG c cur s = initG c cur s ++ [lastG c cur s]
  | [], cur => rfl
  | x :: s, cur => by
    rw [splG, initG, lastG]
    split
    · rw [splG_il c s []]; rfl
    · rw [splG_il c s (cur ++ [x])]
theorem splG_snoc (c : UInt8) : ∀ (s cur : List UInt8), splG c cur (s ++ [c]) = splG c cur s ++ [[]]
  | [], cur => by simp [splG]
  | x :: s, cur => by
    rw [List.cons_append, splG, splG]
    split
    · rw [splG_snoc c s []]; rfl
    · rw [splG_snoc c s (cur ++ [x])]
theorem lastG_ne (c x : UInt8) (hx : x ≠ c) : ∀ (s cur : List UInt8), lastG c cur (s ++ [x]) ≠ []
  | [], cur => by simp [lastG, hx]
  | y :: s, cur => by
    rw [List.cons_append, lastG]
    split
    · exact lastG_ne c x hx s []
    · exact lastG_ne c x hx s (cur ++ [y])
theorem splG_len (c : UInt8) : ∀ (s cur : List UInt8), (splG c cur s).length ≤ s.length + 1 ∧ ∀ t ∈ splG c cur s, t.length ≤ cur.length + s.length
  | [], cur => ⟨by simp [splG], fun t ht => by simp [splG] at ht; rw [ht]; exact Nat.le_refl _⟩
  | x :: s, cur => by
    rw [splG]
    split
    · obtain ⟨h1, h2⟩ := splG_len c s []
      refine ⟨by simp only [List.length_cons]; omega, fun t ht => ?_⟩
      rcases List.mem_cons.1 ht with rfl | ht
      · omega
      · have := h2 t ht; simp only [List.length_nil, List.length_cons] at this ⊢; omega
    · obtain ⟨h1, h2⟩ := splG_len c s (cur ++ [x])
      refine ⟨by simp only [List.length_cons]; omega, fun t ht => ?_⟩
      have := h2 t ht; simp only [List.length_append, List.length_cons, List.length_nil] at this ⊢; omega
end Xs
end Go.Proofs.YtceeeagdjphbnaaDoor
