/- What the reference's function answers, and the program's: the same. -/
import Derived.Test.YtlblgfhdndpmfaaT9
import Derived.Test.YtlblgfhdndpmfaaXTokensE
namespace Go.Proofs.Ytlblgfhdndpmfaa
open Go Vm
set_option linter.unusedVariables false
set_option linter.unusedSimpArgs false
namespace Xs
theorem small_len {s : List UInt8} (h : ET.str.small s) : s.length ≤ maxLen := Nat.le_trans h (by decide)
theorem smallL_len {e : ET} {o : Bool} {s : List e.den} (h : (ET.sl o e).small s) : s.length ≤ maxLen := Nat.le_trans h.1 (by decide)
theorem x_inRange (a b c : Int) : T_spec_l01In (a, b, c) = some (decide (b ≤ a ∧ a ≤ c)) ∧ T_impl_inRange (a, b, c) = some (decide (b ≤ a ∧ a ≤ c)) := by
  rw [e_T_spec_l01In, e_T_impl_inRange]
  by_cases h : b ≤ a <;> simp [h]
/-- A number's bytes: seven bits each, the low ones first. -/
def vEnc (n : Nat) : List UInt8 := if 127 < n then UInt8.ofNat (n % 128 + 128) :: vEnc (n / 128) else [UInt8.ofNat n]
theorem vEnc_hi {n : Nat} (h : 127 < n) : vEnc n = UInt8.ofNat (n % 128 + 128) :: vEnc (n / 128) := by rw [vEnc, if_pos h]
theorem vEnc_lo {n : Nat} (h : n ≤ 127) : vEnc n = [UInt8.ofNat n] := by rw [vEnc, if_neg (by omega)]
theorem u8w {n : Int} (h0 : 0 ≤ n) (h1 : n < 256) : IntKind.u8.wrap n = n := by
  rw [IntKind.wrap_u8]; omega
theorem vEnc_len : ∀ n : Nat, (vEnc n).length ≤ n + 1 := by
  intro n
  induction n using Nat.strongRecOn with
  | _ n ih =>
    by_cases h : 127 < n
    · rw [vEnc_hi h]
      have := ih (n / 128) (by omega)
      simp only [List.length_cons]; omega
    · rw [vEnc_lo (by omega)]; simp
theorem l_var : ∀ (k n : Nat) (b : List Int), k < n → b.length + k ≤ 4294967296 → ∃ (k' : Nat) (b' : List Int), L_spec_l01Var_1 n ((k : Int), b) = some (.inl ((k' : Int), b')) ∧ k' ≤ 127 ∧ b'.length ≤ b.length + k ∧ b'.map (fun x => UInt8.ofNat x.toNat) ++ [UInt8.ofNat k'] = b.map (fun x => UInt8.ofNat x.toNat) ++ vEnc k := by
  intro k
  induction k using Nat.strongRecOn with
  | _ k ih =>
    intro n b hn hb
    obtain ⟨m, rfl⟩ : ∃ m, n = m + 1 := ⟨n - 1, by omega⟩
    rw [e_L_spec_l01Var_1]
    by_cases h : 127 < k
    · have h1 : (127 : Int) < (k : Int) := by omega
      have e1 : IntKind.i64.wrap ((k : Int).tmod 128 + 128) = ((k % 128 + 128 : Nat) : Int) := by
        rw [Int.tmod_eq_emod_of_nonneg (by omega), wrap_ok (by omega) (by omega)]; omega
      have e2 : IntKind.i64.wrap ((k : Int).tdiv 128) = ((k / 128 : Nat) : Int) := by
        rw [Int.tdiv_eq_ediv_of_nonneg (by omega), wrap_ok (by omega) (by omega)]; omega
      simp only [h1, decide_true, cond_true, e1, e2, List.length_singleton]
      rw [if_pos (by omega), u8w (by omega) (by omega)]
      obtain ⟨k', b', h2, h3, h4, h5⟩ := ih (k / 128) (by omega) m (b.append [((k % 128 + 128 : Nat) : Int)]) (by omega) (by simp; omega)
      refine ⟨k', b', h2, h3, by simp at h4; omega, ?_⟩
      rw [h5, vEnc_hi h]
      simp only [List.append_eq, List.map_append, List.map_cons, List.map_nil, Int.toNat_natCast, List.append_assoc, List.cons_append, List.nil_append]
    · have h1 : ¬ (127 : Int) < (k : Int) := by omega
      simp only [h1, decide_false, cond_false]
      exact ⟨k, b, rfl, by omega, by omega, by rw [vEnc_lo (by omega)]⟩
theorem v_l01Var {a : Int} (h0 : 0 ≤ a) (h1 : a ≤ 2147483648) : T_spec_l01Var a = some (vEnc a.toNat) := by
  obtain ⟨k, rfl⟩ : ∃ k : Nat, a = (k : Int) := ⟨a.toNat, by omega⟩
  rw [e_T_spec_l01Var]
  obtain ⟨k', b', h2, h3, h4, h5⟩ := l_var k fuel [] (by simp only [fuel]; omega) (by simp; omega)
  rw [h2]
  simp only [Option.bind_some, Sum.elim_inl]
  simp at h4
  rw [if_pos (by simp; omega), u8w (by omega) (by omega)]
  simp only [List.map_nil, List.nil_append] at h5
  simp only [Option.some.injEq, Int.toNat_natCast]
  rw [← h5]
  simp
/-- A number off the front of bytes. -/
def rvS : Nat → Nat → Nat → Nat → List UInt8 → Option (Nat × Nat)
  | 0, _, _, _, _ => none
  | _ + 1, _, _, _, [] => none
  | k + 1, i, acc, m, c :: t => if c.toNat < 128 then (if (c.toNat = 0 ∧ 0 < i) ∨ 1000000000 < acc + c.toNat * m then none else some (acc + c.toNat * m, i + 1))
    else rvS k (i + 1) (acc + (c.toNat - 128) * m) (m * 128) t
/-- How it is told: the number, where it ends, whether it is right. -/
def outV (b : Nat) : Option (Nat × Nat) → Int × Int × Bool
  | none => (0, 0, false)
  | some (v, n) => ((v : Int), ((b + n : Nat) : Int), true)
theorem getD_at {a : List UInt8} {i : Nat} (h : i < a.length) : a.getD i 0 = a[i] := by simp [List.getD_eq_getElem?_getD, h]
theorem u8lt (c : UInt8) : c.toNat < 256 := c.toNat_lt
theorem l_implVar : ∀ (k e acc m b j : Nat) (a : List UInt8), k + e = 5 → m = 128 ^ e → acc < m → b ≤ a.length → a.length ≤ 4294967296 → ∃ q, L_impl_ReadVar_1 (k + 1 + j) (a, (b : Int), (acc : Int), (m : Int), (e : Int)) = some q ∧ Sum.elim (fun _ => ((0 : Int), (0 : Int), false)) (fun v => v) q = outV b (rvS k e acc m (a.drop (b + e))) := by
  intro k
  induction k with
  | zero =>
    intro e acc m b j a hk hm hacc hb ha
    have he : e = 5 := by omega
    subst he
    rw [show 0 + 1 + j = j + 1 by omega, e_L_impl_ReadVar_1]
    exact ⟨.inl (), rfl, rfl⟩
  | succ k ih =>
    intro e acc m b j a hk hm hacc hb ha
    have he : e ≤ 4 := by omega
    have hmB : m ≤ 268435456 := by
      rw [hm]; exact Nat.le_trans (Nat.pow_le_pow_right (by decide) he) (by decide)
    rw [show k + 1 + 1 + j = (k + 1 + j) + 1 by omega, e_L_impl_ReadVar_1]
    have e1 : ((e : Int) < 5) := by omega
    have w1 : IntKind.i64.wrap ((b : Int) + (e : Int)) = ((b + e : Nat) : Int) := by rw [wrap_ok (by omega) (by omega)]; omega
    simp only [e1, decide_true, cond_true, w1, Option.bind_some, Sum.elim_inl]
    by_cases hlt : b + e < a.length
    · have h2 : ((b + e : Nat) : Int) < (a.length : Int) := by omega
      have hd : a.drop (b + e) = a[b + e] :: a.drop (b + e + 1) := by rw [List.drop_eq_getElem_cons hlt]
      have hc := u8lt a[b + e]
      rw [hd]
      generalize hcc : a[b + e] = c at *
      have w2 : IntKind.i64.wrap (c.toNat : Int) = (c.toNat : Int) := wrap_ok (by omega) (by omega)
      simp only [h2, decide_true, cond_true, Int.natCast_nonneg, if_true, Int.toNat_natCast, getD_at hlt, hcc, w2]
      by_cases hs : c.toNat < 128
      · have hp : c.toNat * m < 128 * m := by
          have := Nat.mul_lt_mul_of_pos_right hs (show 0 < m by rw [hm]; exact Nat.pow_pos (by decide))
          exact this
        have e2 : ¬ (128 : Int) ≤ (c.toNat : Int) := by omega
        have w3 : IntKind.i64.wrap ((acc : Int) + IntKind.i64.wrap ((c.toNat : Int).tmod 128 * (m : Int))) = ((acc + c.toNat * m : Nat) : Int) := by
          rw [Int.tmod_eq_emod_of_nonneg (by omega), Int.emod_eq_of_lt (by omega) (by omega), wrap_ok (n := (c.toNat : Int) * (m : Int)) (by omega) (by omega), wrap_ok (by omega) (by omega)]; omega
        have w4 : IntKind.i64.wrap (IntKind.i64.wrap ((b : Int) + (e : Int)) + 1) = ((b + (e + 1) : Nat) : Int) := by
          rw [w1, wrap_ok (by omega) (by omega)]; omega
        rw [w1] at w4
        have e3 : ((c.toNat : Int) == 0) = decide (c.toNat = 0) := by
          by_cases h : c.toNat = 0 <;> simp [h]
        have e4 : (decide ((0 : Int) < (e : Int))) = decide (0 < e) := by
          by_cases h : 0 < e <;> simp [h]
        have e5 : (decide ((1000000000 : Int) < ((acc + c.toNat * m : Nat) : Int))) = decide (1000000000 < acc + c.toNat * m) := by
          by_cases h : 1000000000 < acc + c.toNat * m
          · rw [decide_eq_true h, decide_eq_true (by omega)]
          · rw [decide_eq_false h, decide_eq_false (by omega)]
        simp only [e2, decide_false, cond_false, w3, e3, e4, e5, bif_bind, Option.bind_some, Sum.elim_inl, w1, w4, rvS, hs, if_true]
        by_cases hz : c.toNat = 0 <;> by_cases he0 : 0 < e <;> by_cases hbig : 1000000000 < acc + c.toNat * m <;> simp only [hz, he0, hbig, decide_true, decide_false, cond_true, cond_false, and_true, and_false, true_and, false_and, true_or, or_true, false_or, or_false, if_true, if_false] <;>
          first
          | exact ⟨_, rfl, rfl⟩
          | (simp only [hz] at hbig; simp only [hbig, decide_true, decide_false, cond_true, cond_false, if_true, if_false]; exact ⟨_, rfl, rfl⟩)
      · have hp : (c.toNat - 128) * m ≤ 127 * m := Nat.mul_le_mul_right _ (by omega)
        have e2 : (128 : Int) ≤ (c.toNat : Int) := by omega
        have hcm : ((c.toNat : Int).tmod 128 * (m : Int)) = (((c.toNat - 128) * m : Nat) : Int) := by
          rw [Int.tmod_eq_emod_of_nonneg (by omega), show (c.toNat : Int) % 128 = ((c.toNat - 128 : Nat) : Int) by omega, Int.natCast_mul]
        have w3 : IntKind.i64.wrap ((acc : Int) + IntKind.i64.wrap ((c.toNat : Int).tmod 128 * (m : Int))) = ((acc + (c.toNat - 128) * m : Nat) : Int) := by
          rw [hcm, wrap_ok (n := (((c.toNat - 128) * m : Nat) : Int)) (by omega) (by omega), wrap_ok (by omega) (by omega)]; omega
        have w4 : IntKind.i64.wrap ((m : Int) * 128) = ((m * 128 : Nat) : Int) := by rw [wrap_ok (by omega) (by omega)]; omega
        have w5 : IntKind.i64.wrap ((e : Int) + 1) = ((e + 1 : Nat) : Int) := by rw [wrap_ok (by omega) (by omega)]; omega
        simp only [e2, decide_true, cond_true, w3, w4, w5, rvS, hs, if_false]
        exact ih (e + 1) (acc + (c.toNat - 128) * m) (m * 128) b j a (by omega) (by rw [hm, Nat.pow_succ]) (by omega) hb ha
    · have h2 : ¬ ((b + e : Nat) : Int) < (a.length : Int) := by omega
      simp only [h2, decide_false, cond_false]
      rw [List.drop_eq_nil_of_le (by omega)]
      exact ⟨.inl (), rfl, rfl⟩
theorem v_implVar {a : List UInt8} {b : Nat} (hb : b ≤ a.length) (ha : a.length ≤ 4294967296) : T_impl_ReadVar (a, (b : Int)) = some (outV b (rvS 5 0 0 1 (a.drop b))) := by
  rw [e_T_impl_ReadVar]
  have h1 : ¬ (b : Int) < 0 := by omega
  have h2 : ¬ (a.length : Int) < (b : Int) := by omega
  obtain ⟨q, h3, h4⟩ := l_implVar 5 0 0 1 b 18446744073709551610 a rfl rfl (by decide) hb ha
  simp only [Nat.add_zero, Int.natCast_zero, Int.natCast_one] at h3 h4
  have h5 : L_impl_ReadVar_1 fuel (a, (b : Int), 0, 1, 0) = some q := h3
  simp only [h1, h2, decide_false, cond_false, Option.bind_some, Sum.elim_inl, h5]
  rw [← h4]
  cases q <;> rfl
theorem rvS_bound : ∀ (k i acc m : Nat) (t : List UInt8) (v n : Nat), rvS k i acc m t = some (v, n) → v ≤ 1000000000 ∧ i < n ∧ n ≤ i + t.length
  | 0, _, _, _, _, _, _, h => by simp [rvS] at h
  | _ + 1, _, _, _, [], _, _, h => by simp [rvS] at h
  | k + 1, i, acc, m, c :: t, v, n, h => by
    simp only [rvS] at h
    split at h
    · split at h
      · cases h
      · cases h; simp; omega
    · have := rvS_bound k _ _ _ t v n h
      simp; omega
/-- What bytes tell, if they are right: the value of the bytes ahead of an end. -/
def vVal : List UInt8 → Nat
  | [] => 0
  | c :: t => c.toNat % 128 + 128 * vVal t
/-- Bytes that are a number's, but for the last one's being 0. -/
def vFit : List UInt8 → Prop
  | [] => False
  | [c] => c.toNat < 128
  | c :: t => 128 ≤ c.toNat ∧ vFit t
theorem vFit_cons {c : UInt8} {t : List UInt8} (h : t ≠ []) : vFit (c :: t) ↔ 128 ≤ c.toNat ∧ vFit t := by
  cases t with
  | nil => exact absurd rfl h
  | cons x l => exact Iff.rfl
theorem vEnc_ne (n : Nat) : vEnc n ≠ [] := by
  by_cases h : 127 < n
  · rw [vEnc_hi h]; simp
  · rw [vEnc_lo (by omega)]; simp
theorem byte_of {c : UInt8} {n : Nat} (h : c.toNat = n) : UInt8.ofNat n = c := by rw [← h]; simp
theorem vEnc_last : ∀ (n : Nat), ∃ l c, vEnc n = l ++ [c] ∧ (l ≠ [] → c.toNat ≠ 0) := by
  intro n
  induction n using Nat.strongRecOn with
  | _ n ih =>
    by_cases h : 127 < n
    · obtain ⟨l, c, h1, h2⟩ := ih (n / 128) (by omega)
      rw [vEnc_hi h]
      refine ⟨UInt8.ofNat (n % 128 + 128) :: l, c, by rw [h1]; rfl, fun _ => ?_⟩
      by_cases hl : l = []
      · subst hl
        by_cases h3 : 127 < n / 128
        · rw [vEnc_hi h3] at h1
          have := vEnc_ne (n / 128 / 128)
          simp at h1
          exact absurd h1.2 this
        · rw [vEnc_lo (by omega)] at h1
          simp at h1
          rw [← h1]
          simp; omega
      · exact h2 hl
    · rw [vEnc_lo (by omega)]
      exact ⟨[], _, rfl, fun h => absurd rfl h⟩
/-- Right bytes are those that their value's are. -/
theorem vEnc_val : ∀ (t : List UInt8), vFit t → (t.length = 1 ∨ t.getLast?.map UInt8.toNat ≠ some 0) → vEnc (vVal t) = t ∧ (1 < t.length → 0 < vVal t)
  | [], h, _ => h.elim
  | [c], h, _ => by
    have h' : c.toNat < 128 := h
    simp only [vVal, Nat.mul_zero, Nat.add_zero]
    rw [Nat.mod_eq_of_lt h', vEnc_lo (by omega)]
    exact ⟨by rw [byte_of rfl], fun h => by simp at h⟩
  | c :: d :: t, h, hl => by
    obtain ⟨h1, h2⟩ := (vFit_cons (by simp)).1 h
    have hl' : (d :: t).getLast?.map UInt8.toNat ≠ some 0 := by
      rcases hl with hl | hl
      · simp at hl
      · simpa using hl
    obtain ⟨h3, h4⟩ := vEnc_val (d :: t) h2 (.inr hl')
    have hp : 0 < vVal (d :: t) := by
      cases t with
      | nil =>
        simp at hl'
        have h5 : d.toNat < 128 := h2
        simp only [vVal]; omega
      | cons x l => exact h4 (by simp)
    have hc := u8lt c
    simp only [vVal] at hp ⊢
    rw [vEnc_hi (by omega)]
    refine ⟨?_, fun _ => by omega⟩
    rw [show (c.toNat % 128 + 128 * (d.toNat % 128 + 128 * vVal t)) / 128 = d.toNat % 128 + 128 * vVal t by omega]
    rw [show vEnc (d.toNat % 128 + 128 * vVal t) = d :: t from h3, byte_of (c := c) (by omega)]
theorem vEnc_fit : ∀ n : Nat, vFit (vEnc n) ∧ vVal (vEnc n) = n := by
  intro n
  induction n using Nat.strongRecOn with
  | _ n ih =>
    by_cases h : 127 < n
    · obtain ⟨h1, h2⟩ := ih (n / 128) (by omega)
      rw [vEnc_hi h]
      have hb : (UInt8.ofNat (n % 128 + 128)).toNat = n % 128 + 128 := by simp; omega
      refine ⟨(vFit_cons (vEnc_ne _)).2 ⟨by omega, h1⟩, ?_⟩
      simp only [vVal, h2, hb]; omega
    · rw [vEnc_lo (by omega)]
      have hb : (UInt8.ofNat n).toNat = n := by simp; omega
      refine ⟨by simp only [vFit, hb]; omega, ?_⟩
      simp only [vVal, hb]; omega
theorem vVal_app : ∀ (p : List UInt8) (c : UInt8), vVal (p ++ [c]) = vVal p + c.toNat % 128 * 128 ^ p.length
  | [], c => by simp [vVal]
  | x :: p, c => by
    simp only [List.cons_append, vVal, vVal_app p c, List.length_cons, Nat.pow_succ]
    rw [Nat.mul_add, Nat.add_assoc, Nat.mul_comm (128 ^ p.length) 128, ← Nat.mul_assoc, ← Nat.mul_assoc, Nat.mul_comm (c.toNat % 128) 128]
theorem vFit_app : ∀ (p : List UInt8) (c : UInt8), (∀ x ∈ p, 128 ≤ x.toNat) → c.toNat < 128 → vFit (p ++ [c])
  | [], c, _, h => h
  | x :: p, c, hp, h => by
    rw [List.cons_append]
    exact (vFit_cons (by simp)).2 ⟨hp x (by simp), vFit_app p c (fun y hy => hp y (by simp [hy])) h⟩
theorem v_canon {p : List UInt8} {c : UInt8} (hp : ∀ x ∈ p, 128 ≤ x.toNat) (hc : c.toNat < 128) : (vEnc (vVal (p ++ [c])) == p ++ [c]) = !decide (c.toNat = 0 ∧ 0 < p.length) := by
  by_cases h : c.toNat = 0 ∧ 0 < p.length
  · rw [decide_eq_true h]
    obtain ⟨l, d, h1, h2⟩ := vEnc_last (vVal (p ++ [c]))
    rw [Bool.not_true, beq_eq_false_iff_ne]
    intro he
    rw [h1] at he
    have h3 := List.append_inj' he rfl
    have h4 : d = c := by simpa using h3.2
    subst h4
    exact h2 (fun hl => by rw [h3.1] at hl; subst hl; simp at h) h.1
  · rw [decide_eq_false h]
    have := (vEnc_val (p ++ [c]) (vFit_app p c hp hc) (by
      by_cases hl : p = []
      · subst hl; exact .inl rfl
      · refine .inr ?_
        have : 0 < p.length := by cases p with | nil => exact absurd rfl hl | cons => simp
        simp; omega)).1
    rw [this]; simp
theorem l_specVar : ∀ (k e acc m b j : Nat) (a p : List UInt8), k + e = 5 → m = 128 ^ e → p = (a.drop b).take e → p.length = e → (∀ x ∈ p, 128 ≤ x.toNat) → acc = vVal p → acc < m → b ≤ a.length → a.length ≤ 4294967296 → ∃ q, L_spec_ReadVar_1 (k + 1 + j) (a, (b : Int), (acc : Int), (m : Int), ((b + e : Nat) : Int)) = some q ∧ Sum.elim (fun _ => ((0 : Int), (0 : Int), false)) (fun v => v) q = outV b (rvS k e acc m (a.drop (b + e))) := by
  intro k
  induction k with
  | zero =>
    intro e acc m b j a p hk hm hp hpl hp8 hv hacc hb ha
    have he : e = 5 := by omega
    subst he
    rw [show 0 + 1 + j = j + 1 by omega, e_L_spec_ReadVar_1]
    have w1 : IntKind.i64.wrap ((b : Int) + 5) = ((b + 5 : Nat) : Int) := by rw [wrap_ok (by omega) (by omega)]; omega
    simp only [w1, bif_bind, Option.bind_some, Sum.elim_inl, show ¬ ((b + 5 : Nat) : Int) < ((b + 5 : Nat) : Int) by omega, decide_false, cond_false]
    cases decide (((b + 5 : Nat) : Int) < (a.length : Int)) <;> exact ⟨_, rfl, rfl⟩
  | succ k ih =>
    intro e acc m b j a p hk hm hp hpl hp8 hv hacc hb ha
    have he : e ≤ 4 := by omega
    have hmB : m ≤ 268435456 := by
      rw [hm]; exact Nat.le_trans (Nat.pow_le_pow_right (by decide) he) (by decide)
    rw [show k + 1 + 1 + j = (k + 1 + j) + 1 by omega, e_L_spec_ReadVar_1]
    have w1 : IntKind.i64.wrap ((b : Int) + 5) = ((b + 5 : Nat) : Int) := by rw [wrap_ok (by omega) (by omega)]; omega
    have e1 : ((b + e : Nat) : Int) < ((b + 5 : Nat) : Int) := by omega
    by_cases hlt : b + e < a.length
    · have h2 : ((b + e : Nat) : Int) < (a.length : Int) := by omega
      have hd : a.drop (b + e) = a[b + e] :: a.drop (b + e + 1) := by rw [List.drop_eq_getElem_cons hlt]
      have hc := u8lt a[b + e]
      have hsub : (a.drop b).take (e + 1) = p ++ [a[b + e]] := by
        rw [List.take_add_one, ← hp, List.getElem?_drop, List.getElem?_eq_getElem hlt]; rfl
      rw [hd]
      generalize hcc : a[b + e] = c at *
      have w2 : IntKind.i64.wrap (c.toNat : Int) = (c.toNat : Int) := wrap_ok (by omega) (by omega)
      have w4 : IntKind.i64.wrap (((b + e : Nat) : Int) + 1) = ((b + (e + 1) : Nat) : Int) := by
        rw [wrap_ok (by omega) (by omega)]; omega
      simp only [h2, w1, e1, decide_true, cond_true, Option.bind_some, Sum.elim_inl, Int.natCast_nonneg, if_true, Int.toNat_natCast, getD_at hlt, hcc, w2, w4]
      by_cases hs : c.toNat < 128
      · have hp2 : c.toNat * m < 128 * m := Nat.mul_lt_mul_of_pos_right hs (show 0 < m by rw [hm]; exact Nat.pow_pos (by decide))
        have e2 : (c.toNat : Int) < 128 := by omega
        have w3 : IntKind.i64.wrap ((acc : Int) + IntKind.i64.wrap ((c.toNat : Int).tmod 128 * (m : Int))) = ((acc + c.toNat * m : Nat) : Int) := by
          rw [Int.tmod_eq_emod_of_nonneg (by omega), Int.emod_eq_of_lt (by omega) (by omega), wrap_ok (n := (c.toNat : Int) * (m : Int)) (by omega) (by omega), wrap_ok (by omega) (by omega)]; omega
        have hval : vVal (p ++ [c]) = acc + c.toNat * m := by
          rw [vVal_app, Nat.mod_eq_of_lt hs, hpl, ← hm, hv]
        simp only [e2, decide_true, cond_true, w3, rvS, hs, if_true]
        by_cases hbig : 1000000000 < acc + c.toNat * m
        · have e5 : (1000000000 : Int) < ((acc + c.toNat * m : Nat) : Int) := by omega
          simp only [e5, hbig, decide_true, cond_true, Option.bind_some, Sum.elim_inl, or_true, if_true]
          exact ⟨_, rfl, rfl⟩
        · have e5 : ¬ (1000000000 : Int) < ((acc + c.toNat * m : Nat) : Int) := by omega
          have g1 : ((b + (e + 1) : Nat) : Int) ≤ (a.length : Int) := by omega
          have g2 : (b : Int) ≤ ((b + (e + 1) : Nat) : Int) := by omega
          simp only [e5, g1, g2, and_self, true_and, if_true, decide_false, cond_false, v_l01Var (a := ((acc + c.toNat * m : Nat) : Int)) (by omega) (by omega), Option.bind_some, Sum.elim_inl, Int.toNat_natCast]
          rw [List.drop_take, show b + (e + 1) - b = e + 1 by omega, hsub, ← hval, v_canon hp8 hs, hpl]
          by_cases hz : c.toNat = 0 ∧ 0 < e
          · simp only [hz, and_self, decide_true, Bool.not_true, Bool.not_false, cond_true, true_or, if_true]
            exact ⟨_, rfl, rfl⟩
          · rw [if_neg (by rw [hval]; omega)]
            simp only [hz, decide_false, Bool.not_true, Bool.not_false, cond_false]
            exact ⟨_, rfl, by simp only [Sum.elim_inr, outV]; rw [w4]⟩
      · have hp2 : (c.toNat - 128) * m ≤ 127 * m := Nat.mul_le_mul_right _ (by omega)
        have e2 : ¬ (c.toNat : Int) < 128 := by omega
        have hcm : ((c.toNat : Int).tmod 128 * (m : Int)) = (((c.toNat - 128) * m : Nat) : Int) := by
          rw [Int.tmod_eq_emod_of_nonneg (by omega), show (c.toNat : Int) % 128 = ((c.toNat - 128 : Nat) : Int) by omega, Int.natCast_mul]
        have w3 : IntKind.i64.wrap ((acc : Int) + IntKind.i64.wrap ((c.toNat : Int).tmod 128 * (m : Int))) = ((acc + (c.toNat - 128) * m : Nat) : Int) := by
          rw [hcm, wrap_ok (n := (((c.toNat - 128) * m : Nat) : Int)) (by omega) (by omega), wrap_ok (by omega) (by omega)]; omega
        have w5 : IntKind.i64.wrap ((m : Int) * 128) = ((m * 128 : Nat) : Int) := by rw [wrap_ok (by omega) (by omega)]; omega
        simp only [e2, decide_false, cond_false, w3, w5, rvS, hs, if_false]
        refine ih (e + 1) (acc + (c.toNat - 128) * m) (m * 128) b j a (p ++ [c]) (by omega) (by rw [hm, Nat.pow_succ]) hsub.symm (by simp [hpl]) (fun x hx => ?_) ?_ (by omega) hb ha
        · rcases List.mem_append.1 hx with hx | hx
          · exact hp8 x hx
          · simp at hx; subst hx; omega
        · rw [vVal_app, hpl, ← hm, hv, show c.toNat % 128 = c.toNat - 128 by omega]
    · have h2 : ¬ ((b + e : Nat) : Int) < (a.length : Int) := by omega
      simp only [h2, decide_false, cond_false, Option.bind_some, Sum.elim_inl]
      rw [List.drop_eq_nil_of_le (by omega)]
      exact ⟨.inl (), rfl, rfl⟩
theorem v_specVar {a : List UInt8} {b : Nat} (hb : b ≤ a.length) (ha : a.length ≤ 4294967296) : T_spec_ReadVar (a, (b : Int)) = some (outV b (rvS 5 0 0 1 (a.drop b))) := by
  rw [e_T_spec_ReadVar, e_T_spec_l01In]
  have h1 : (0 : Int) ≤ (b : Int) := by omega
  have h2 : (b : Int) ≤ (a.length : Int) := by omega
  obtain ⟨q, h3, h4⟩ := l_specVar 5 0 0 1 b 18446744073709551610 a [] rfl rfl (by simp) rfl (by simp) rfl (by decide) hb ha
  simp only [Nat.add_zero, Int.natCast_zero, Int.natCast_one] at h3 h4
  have h5 : L_spec_ReadVar_1 fuel (a, (b : Int), 0, 1, (b : Int)) = some q := h3
  simp only [h1, h2, decide_true, cond_true, Bool.not_true, cond_false, Option.bind_some, Sum.elim_inl, h5]
  rw [← h4]
  cases q <;> rfl
/-- What is read is what its number's bytes are. -/
theorem rvS_enc : ∀ (k i acc m : Nat) (t p : List UInt8), k + i = 5 → p.length = i → (∀ x ∈ p, 128 ≤ x.toNat) → acc = vVal p → m = 128 ^ i → ∀ v n, rvS k i acc m t = some (v, n) → ∃ q, t = q ++ t.drop (n - i) ∧ q.length = n - i ∧ p ++ q = vEnc v
  | 0, _, _, _, _, _, _, _, _, _, _, v, n, h => by simp [rvS] at h
  | _ + 1, _, _, _, [], _, _, _, _, _, _, v, n, h => by simp [rvS] at h
  | k + 1, i, acc, m, c :: t, p, hk, hpl, hp, hv, hm, v, n, h => by
    simp only [rvS] at h
    split at h
    · rename_i hs
      split at h
      · cases h
      · rename_i hz
        cases h
        refine ⟨[c], by simp, by simp, ?_⟩
        have h1 : vVal (p ++ [c]) = acc + c.toNat * m := by rw [vVal_app, Nat.mod_eq_of_lt hs, hpl, ← hm, hv]
        have h2 := v_canon hp hs
        rw [decide_eq_false (by rw [hpl]; omega), Bool.not_false, beq_iff_eq, h1] at h2
        exact h2.symm
    · rename_i hs
      have hc := u8lt c
      obtain ⟨q, h1, h2, h3⟩ := rvS_enc k (i + 1) _ _ t (p ++ [c]) (by omega) (by simp [hpl]) (fun x hx => by
        rcases List.mem_append.1 hx with hx | hx
        · exact hp x hx
        · simp at hx; subst hx; omega) (by rw [vVal_app, hpl, ← hm, hv, show c.toNat % 128 = c.toNat - 128 by omega]) (by rw [hm, Nat.pow_succ]) v n h
      have hn := (rvS_bound _ _ _ _ _ _ _ h).2.1
      refine ⟨c :: q, ?_, by simp; omega, by rw [← h3]; simp⟩
      rw [show n - i = (n - (i + 1)) + 1 by omega, List.drop_succ_cons, List.cons_append, ← h1]
def numR (a : List UInt8) (p : Nat) (bad : Bool) : Int × List UInt8 × Int × Bool :=
  bif bad then (0, a, (p : Int), true) else match rvS 5 0 0 1 (a.drop p) with
    | none => (0, a, (p : Int), true)
    | some (v, n) => ((v : Int), a, ((p + n : Nat) : Int), false)
theorem n_impl {a : List UInt8} {p : Nat} {bad : Bool} (hp : p ≤ a.length) (ha : a.length ≤ 4294967296) : T___impl_scanner__number (a, (p : Int), bad) = some (numR a p bad) := by
  rw [e_T___impl_scanner__number, v_implVar hp ha]
  cases bad <;> simp only [numR, cond_true, cond_false, Option.bind_some, Sum.elim_inl]
  cases rvS 5 0 0 1 (a.drop p) with
  | none => rfl
  | some q => rfl
theorem n_spec {a : List UInt8} {p : Nat} {bad : Bool} (hp : p ≤ a.length) (ha : a.length ≤ 4294967296) : T_spec_l05Var (a, (p : Int), bad) = some (numR a p bad) := by
  rw [e_T_spec_l05Var, v_specVar hp ha]
  cases bad <;> simp only [numR, cond_true, cond_false, Option.bind_some, Sum.elim_inl]
  cases rvS 5 0 0 1 (a.drop p) with
  | none => rfl
  | some q => rfl
def takR (a : List UInt8) (p : Nat) (bad : Bool) (n : Nat) : List UInt8 × List UInt8 × Int × Bool :=
  bif bad || decide (a.length - p < n) then ([], a, (p : Int), true) else ((a.drop p).take n, a, ((p + n : Nat) : Int), false)
theorem t_impl {a : List UInt8} {p n : Nat} {bad : Bool} (hp : p ≤ a.length) (ha : a.length ≤ 4294967296) (hn : n ≤ 4294967296) : T___impl_scanner__take ((a, (p : Int), bad), (n : Int)) = some (takR a p bad n) := by
  rw [e_T___impl_scanner__take]
  have w1 : IntKind.i64.wrap ((a.length : Int) - (p : Int)) = ((a.length - p : Nat) : Int) := by rw [wrap_ok (by omega) (by omega)]; omega
  have w2 : IntKind.i64.wrap ((p : Int) + (n : Int)) = ((p + n : Nat) : Int) := by rw [wrap_ok (by omega) (by omega)]; omega
  have w3 : IntKind.i64.wrap (((p + n : Nat) : Int) - (n : Int)) = (p : Int) := by rw [wrap_ok (by omega) (by omega)]; omega
  cases bad
  · by_cases h : a.length - p < n
    · have h' : ((a.length - p : Nat) : Int) < (n : Int) := by omega
      simp only [takR, w1, h, h', decide_true, cond_true, cond_false, Bool.false_or, Option.bind_some, Sum.elim_inl]
    · have h' : ¬ ((a.length - p : Nat) : Int) < (n : Int) := by omega
      have g1 : ((p + n : Nat) : Int) ≤ (a.length : Int) := by omega
      have g2 : (p : Int) ≤ ((p + n : Nat) : Int) := by omega
      simp only [takR, w1, w2, w3, h, h', g1, g2, decide_false, cond_false, Bool.false_or, Option.bind_some, Sum.elim_inl, Int.natCast_nonneg, true_and, if_true, Int.toNat_natCast, List.drop_take, Nat.add_sub_cancel_left]
  · rfl
theorem t_spec {a : List UInt8} {p n : Nat} {bad : Bool} (hp : p ≤ a.length) (ha : a.length ≤ 4294967296) (hn : n ≤ 4294967296) : T_spec_l05Take ((a, (p : Int), bad), (n : Int)) = some (takR a p bad n) := by
  have := t_impl (bad := bad) hp ha hn
  rw [e_T___impl_scanner__take] at this
  rw [e_T_spec_l05Take]
  exact this
def oneR (a : List UInt8) (p : Nat) (bad : Bool) : Int × List UInt8 × Int × Bool :=
  bif bad then (0, a, (p : Int), true) else match a.drop p with
    | [] => (0, a, (p : Int), true)
    | c :: _ => ((c.toNat : Int), a, ((p + 1 : Nat) : Int), false)
theorem take_one {a : List UInt8} {p : Nat} (hp : p ≤ a.length) : (takR a p false 1) = match a.drop p with
    | [] => ([], a, (p : Int), true)
    | c :: _ => ([c], a, ((p + 1 : Nat) : Int), false) := by
  unfold takR
  have hl : (a.drop p).length = a.length - p := by simp
  cases hd : a.drop p with
  | nil =>
    rw [hd, List.length_nil] at hl
    have hq : a.length - p < 1 := by omega
    rw [decide_eq_true hq]; rfl
  | cons c t =>
    rw [hd] at hl; simp at hl
    have hq : ¬ a.length - p < 1 := by omega
    rw [decide_eq_false hq]; simp
theorem o_impl {a : List UInt8} {p : Nat} {bad : Bool} (hp : p ≤ a.length) (ha : a.length ≤ 4294967296) : T___impl_scanner__octet (a, (p : Int), bad) = some (oneR a p bad) := by
  rw [e_T___impl_scanner__octet, show (1 : Int) = ((1 : Nat) : Int) from rfl, t_impl hp ha (by decide)]
  cases bad
  · rw [take_one hp]
    unfold oneR
    cases a.drop p with
    | nil => rfl
    | cons c t =>
      have hc := u8lt c
      simp only [Option.bind_some, List.length_singleton, cond_false]
      simp only [show ([c] == ([] : List UInt8)) = false from rfl, cond_false]
      rw [if_pos (by decide)]
      simp only [List.getD_cons_zero]
      rw [wrap_ok (by omega) (by omega)]
  · rfl
theorem o_spec {a : List UInt8} {p : Nat} {bad : Bool} (hp : p ≤ a.length) (ha : a.length ≤ 4294967296) : T_spec_l05One (a, (p : Int), bad) = some (oneR a p bad) := by
  rw [e_T_spec_l05One, show (1 : Int) = ((1 : Nat) : Int) from rfl, t_spec hp ha (by decide)]
  cases bad
  · rw [take_one hp]
    unfold oneR
    cases a.drop p with
    | nil => rfl
    | cons c t =>
      have hc := u8lt c
      simp only [Option.bind_some, List.length_singleton, cond_false]
      rw [if_pos (by decide)]
      simp only [List.getD_cons_zero]
      rw [wrap_ok (by omega) (by omega)]
  · rfl
/-- A text with its length ahead; the program wants it short. -/
def shR (lim : Nat) (a : List UInt8) (p : Nat) (bad : Bool) : List UInt8 × List UInt8 × Int × Bool :=
  bif bad then ([], a, (p : Int), true) else match rvS 5 0 0 1 (a.drop p) with
    | none => ([], a, (p : Int), true)
    | some (v, n) => takR a (p + n) (decide (lim < v)) v
theorem rv_le {a : List UInt8} {p v n : Nat} (hp : p ≤ a.length) (h : rvS 5 0 0 1 (a.drop p) = some (v, n)) : v ≤ 1000000000 ∧ 0 < n ∧ p + n ≤ a.length := by
  have := rvS_bound _ _ _ _ _ _ _ h
  rw [List.length_drop] at this
  omega
theorem v_byte {d : Int} (h0 : 0 ≤ d) (h1 : d < 256) : T_spec_l05Byte d = some [UInt8.ofNat d.toNat] := by
  rw [e_T_spec_l05Byte, u8w h0 h1]; rfl
theorem bad_num {a : List UInt8} {p : Nat} : numR a p true = (0, a, (p : Int), true) := rfl
theorem bad_one {a : List UInt8} {p : Nat} : oneR a p true = (0, a, (p : Int), true) := rfl
theorem bad_sh {a : List UInt8} {p n : Nat} : shR n a p true = ([], a, (p : Int), true) := rfl
theorem bad_tak {a : List UInt8} {p n : Nat} : takR a p true n = ([], a, (p : Int), true) := rfl
theorem num_enc {a : List UInt8} {p v n : Nat} (h : rvS 5 0 0 1 (a.drop p) = some (v, n)) : a.drop p = vEnc v ++ a.drop (p + n) := by
  obtain ⟨q, h1, h2, h3⟩ := rvS_enc 5 0 0 1 _ [] rfl rfl (by simp) rfl rfl v n h
  rw [List.nil_append] at h3
  rw [Nat.sub_zero, List.drop_drop, h3] at h1
  exact h1
/-- From p to p' the text reads t. -/
def Rd (a : List UInt8) (p p' : Nat) (t : List UInt8) : Prop := p' ≤ a.length ∧ a.drop p = t ++ a.drop p'
theorem Rd.refl {a : List UInt8} {p : Nat} (h : p ≤ a.length) : Rd a p p [] := ⟨h, rfl⟩
theorem Rd.trans {a s t : List UInt8} {p q r : Nat} (h1 : Rd a p q s) (h2 : Rd a q r t) : Rd a p r (s ++ t) := ⟨h2.1, by rw [h1.2, h2.2, List.append_assoc]⟩
theorem Rd.all {a t : List UInt8} {p : Nat} (h : Rd a 0 p t) : (t == a) = ((p : Int) == (a.length : Int)) := by
  obtain ⟨h1, h2⟩ := h
  rw [List.drop_zero] at h2
  by_cases hp : p = a.length
  · rw [List.drop_eq_nil_of_le (by omega), List.append_nil] at h2
    rw [← h2, hp]; simp
  · have h3 : ¬ t = a := fun e => by
      have := congrArg List.length h2
      rw [e] at this
      simp at this; omega
    rw [beq_eq_false_iff_ne.2 h3, beq_eq_false_iff_ne.2 (by omega)]
/-- A step of the reference and of the program beside each other. E: they agree; F: what alone the program refuses. -/
structure Stp (a : List UInt8) (p q : Nat) (bs bi : Bool) (p' q' : Nat) (bs' bi' : Bool) (t : List UInt8) (E F : Prop) : Prop where
  hp : p' ≤ a.length
  hq : q' ≤ a.length
  go : bi' = false → bi = false ∧ bs' = false ∧ q' = p' ∧ E
  rd : bs' = false → bs = false ∧ Rd a p p' t
  far : bs' = false → bi = false → bi' = true → F
theorem Stp.trans {a t1 t2 : List UInt8} {p q p1 q1 p2 q2 : Nat} {bs bi bs1 bi1 bs2 bi2 : Bool} {E1 E2 F1 F2 : Prop} (h1 : Stp a p q bs bi p1 q1 bs1 bi1 t1 E1 F1) (h2 : Stp a p1 q1 bs1 bi1 p2 q2 bs2 bi2 t2 E2 F2) :
    Stp a p q bs bi p2 q2 bs2 bi2 (t1 ++ t2) (E1 ∧ E2) (F1 ∨ F2) := by
  refine ⟨h2.hp, h2.hq, fun h => ?_, fun h => ?_, fun h h0 h' => ?_⟩
  · obtain ⟨g1, g2, g3, g4⟩ := h2.go h
    obtain ⟨k1, k2, k3, k4⟩ := h1.go g1
    exact ⟨k1, g2, g3, k4, g4⟩
  · obtain ⟨g1, g2⟩ := h2.rd h
    obtain ⟨k1, k2⟩ := h1.rd g1
    exact ⟨k1, k2.trans g2⟩
  · cases hb : bi1 with
    | true => exact .inl (h1.far (h2.rd h).1 h0 hb)
    | false => exact .inr (h2.far h hb h')
theorem Stp.mono {a t : List UInt8} {p q p1 q1 : Nat} {bs bi bs1 bi1 : Bool} {E E' F F' : Prop} (h : Stp a p q bs bi p1 q1 bs1 bi1 t E F) (hE : E → E') (hF : F → F') : Stp a p q bs bi p1 q1 bs1 bi1 t E' F' :=
  ⟨h.hp, h.hq, fun e => by obtain ⟨g1, g2, g3, g4⟩ := h.go e; exact ⟨g1, g2, g3, hE g4⟩, h.rd, fun e1 e2 e3 => hF (h.far e1 e2 e3)⟩
theorem oneR_rd {a : List UInt8} {p : Nat} {b : Bool} (hp : p ≤ a.length) : ∃ (d p' : Nat) (b' : Bool), oneR a p b = ((d : Int), a, (p' : Int), b') ∧ p' ≤ a.length ∧ d < 256 ∧ (b' = false → b = false ∧ Rd a p p' [UInt8.ofNat d]) := by
  cases b with
  | true => exact ⟨0, p, true, rfl, hp, by decide, fun h => by cases h⟩
  | false =>
    unfold oneR
    have hl : (a.drop p).length = a.length - p := by simp
    cases hd : a.drop p with
    | nil => exact ⟨0, p, true, rfl, hp, by decide, fun h => by cases h⟩
    | cons c t =>
      rw [hd, List.length_cons] at hl
      refine ⟨c.toNat, p + 1, false, rfl, by omega, u8lt c, fun _ => ⟨rfl, by omega, ?_⟩⟩
      rw [byte_of (c := c) rfl, hd, ← List.drop_drop, hd]; rfl
theorem one_step {a : List UInt8} {p q : Nat} {bs bi : Bool} (ha : a.length ≤ 4294967296) (hp : p ≤ a.length) (hq : q ≤ a.length) (hl : bi = false → bs = false ∧ q = p) :
    ∃ (d u p' q' : Nat) (bs' bi' : Bool), T_spec_l05One (a, (p : Int), bs) = some ((d : Int), a, (p' : Int), bs') ∧ T___impl_scanner__octet (a, (q : Int), bi) = some ((u : Int), a, (q' : Int), bi') ∧ d < 256 ∧ u < 256 ∧
      Stp a p q bs bi p' q' bs' bi' [UInt8.ofNat d] (u = d) False := by
  obtain ⟨d, p', bs', h1, h2, h3, h4⟩ := oneR_rd (b := bs) hp
  cases bi with
  | true => exact ⟨d, 0, p', q, bs', true, by rw [o_spec hp ha, h1], by rw [o_impl hq ha]; rfl, h3, by decide, h2, hq, fun h => (by cases h), h4, fun _ h => (by cases h)⟩
  | false =>
    obtain ⟨rfl, rfl⟩ := hl rfl
    exact ⟨d, d, p', p', bs', bs', by rw [o_spec hp ha, h1], by rw [o_impl hp ha, h1], h3, h3, h2, h2, fun h => ⟨rfl, h, rfl, rfl⟩, h4, fun h1 _ h2 => by rw [h1] at h2; cases h2⟩
theorem numR_rd {a : List UInt8} {p : Nat} {b : Bool} (hp : p ≤ a.length) : ∃ (v p' : Nat) (b' : Bool), numR a p b = ((v : Int), a, (p' : Int), b') ∧ p' ≤ a.length ∧ v ≤ 1000000000 ∧ (b' = false → b = false ∧ Rd a p p' (vEnc v)) := by
  cases b with
  | true => exact ⟨0, p, true, rfl, hp, by decide, fun h => by cases h⟩
  | false =>
    unfold numR
    cases hr : rvS 5 0 0 1 (a.drop p) with
    | none => exact ⟨0, p, true, rfl, hp, by decide, fun h => by cases h⟩
    | some q =>
      obtain ⟨v, n⟩ := q
      obtain ⟨h1, h2, h3⟩ := rv_le hp hr
      exact ⟨v, p + n, false, rfl, h3, h1, fun _ => ⟨rfl, h3, num_enc hr⟩⟩
theorem num_step {a : List UInt8} {p q : Nat} {bs bi : Bool} (ha : a.length ≤ 4294967296) (hp : p ≤ a.length) (hq : q ≤ a.length) (hl : bi = false → bs = false ∧ q = p) :
    ∃ (v u p' q' : Nat) (bs' bi' : Bool), T_spec_l05Var (a, (p : Int), bs) = some ((v : Int), a, (p' : Int), bs') ∧ T___impl_scanner__number (a, (q : Int), bi) = some ((u : Int), a, (q' : Int), bi') ∧ v ≤ 1000000000 ∧ u ≤ 1000000000 ∧
      Stp a p q bs bi p' q' bs' bi' (vEnc v) (u = v) False := by
  obtain ⟨d, p', bs', h1, h2, h3, h4⟩ := numR_rd (b := bs) hp
  cases bi with
  | true => exact ⟨d, 0, p', q, bs', true, by rw [n_spec hp ha, h1], by rw [n_impl hq ha]; rfl, h3, by decide, h2, hq, fun h => (by cases h), h4, fun _ h => (by cases h)⟩
  | false =>
    obtain ⟨rfl, rfl⟩ := hl rfl
    exact ⟨d, d, p', p', bs', bs', by rw [n_spec hp ha, h1], by rw [n_impl hp ha, h1], h3, h3, h2, h2, fun h => ⟨rfl, h, rfl, rfl⟩, h4, fun h1 _ h2 => by rw [h1] at h2; cases h2⟩
/-- A text with its length ahead. -/
def shT (t : List UInt8) : List UInt8 := vEnc t.length ++ t
theorem shR_rd {a : List UInt8} {p lim : Nat} {b : Bool} (hp : p ≤ a.length) : ∃ (t : List UInt8) (p' : Nat) (b' : Bool), shR lim a p b = (t, a, (p' : Int), b') ∧ p' ≤ a.length ∧ t.length ≤ a.length ∧ (b' = false → b = false ∧ t.length ≤ lim ∧ Rd a p p' (shT t)) := by
  cases b with
  | true => exact ⟨[], p, true, rfl, hp, by simp, fun h => by cases h⟩
  | false =>
    unfold shR
    cases hr : rvS 5 0 0 1 (a.drop p) with
    | none => exact ⟨[], p, true, rfl, hp, by simp, fun h => by cases h⟩
    | some q =>
      obtain ⟨v, n⟩ := q
      obtain ⟨h1, h2, h3⟩ := rv_le hp hr
      simp only [cond_false, takR]
      by_cases hc : (decide (lim < v) || decide (a.length - (p + n) < v)) = true
      · rw [hc]; exact ⟨[], p + n, true, rfl, h3, by simp, fun h => by cases h⟩
      · rw [Bool.not_eq_true] at hc
        rw [hc]
        simp only [Bool.or_eq_false_iff, decide_eq_false_iff_not] at hc
        have hz : ((a.drop (p + n)).take v).length = v := by simp; omega
        refine ⟨(a.drop (p + n)).take v, p + n + v, false, rfl, by omega, by omega, fun _ => ⟨by first | rfl | trivial, by omega, by omega, ?_⟩⟩
        rw [shT, hz, num_enc hr, List.append_assoc, ← List.drop_drop (i := v), List.take_append_drop]
theorem u32w {n : Int} (h0 : 0 ≤ n) (h1 : n < 4294967296) : IntKind.u32.wrap n = n := by
  simp only [IntKind.wrap, IntKind.bits, IntKind.signed]
  first | (simp; omega) | omega
def bitS (a : Int) : Int := if a % 2 = 1 then ((BitVec.ofInt 32 (a / 2) ^^^ BitVec.ofInt 32 3558460437).toNat : Int) else a / 2
theorem bitS_in {a : Int} (h0 : 0 ≤ a) (h1 : a < 4294967296) : 0 ≤ bitS a ∧ bitS a < 4294967296 := by
  unfold bitS
  split
  · have := (BitVec.ofInt 32 (a / 2) ^^^ BitVec.ofInt 32 3558460437).isLt
    omega
  · omega
def bitN : Nat → Int → Int
  | 0, a => a
  | m + 1, a => bitN m (bitS a)
theorem bitN_in : ∀ (m : Nat) {a : Int}, 0 ≤ a → a < 4294967296 → 0 ≤ bitN m a ∧ bitN m a < 4294967296
  | 0, _, h0, h1 => ⟨h0, h1⟩
  | m + 1, a, h0, h1 => bitN_in m (bitS_in h0 h1).1 (bitS_in h0 h1).2
theorem toNat_u32 {a : Int} (h0 : 0 ≤ a) (h1 : a < 4294967296) : (BitVec.ofInt 32 a).toNat = a.toNat := by
  rw [BitVec.toNat_ofInt]
  omega
theorem l_specBits {b : List UInt8} {c : Int} : ∀ (m n d : Nat) (a : Int), m < n → d + m = 8 → 0 ≤ a → a < 4294967296 → L_spec_SumMore_1 n (a, b, c, (d : Int)) = some (.inl (bitN m a, b, c))
  | 0, n, d, a, hn, hd, h0, h1 => by
    obtain ⟨n, rfl⟩ : ∃ j, n = j + 1 := ⟨n - 1, by omega⟩
    rw [e_L_spec_SumMore_1, decide_eq_false (by omega)]; rfl
  | m + 1, n, d, a, hn, hd, h0, h1 => by
    obtain ⟨n, rfl⟩ : ∃ j, n = j + 1 := ⟨n - 1, by omega⟩
    have hb := bitS_in h0 h1
    have ih := l_specBits (b := b) (c := c) m n (d + 1) (bitS a) (by omega) (by omega) hb.1 hb.2
    have h2 : a.tdiv 2 = a / 2 := Int.tdiv_eq_ediv_of_nonneg h0
    have h3 : a.tmod 2 = a % 2 := Int.tmod_eq_emod_of_nonneg h0
    rw [e_L_spec_SumMore_1, decide_eq_true (by omega), cond_true, h2, h3, u32w (n := a / 2) (by omega) (by omega)]
    have hx := (BitVec.ofInt 32 (a / 2) ^^^ BitVec.ofInt 32 3558460437).isLt
    rw [u32w (n := (((BitVec.ofInt 32 (a / 2) ^^^ BitVec.ofInt 32 3558460437).toNat : Nat) : Int)) (by omega) (by omega)]
    have hs : (bif a % 2 == 1 then some (Sum.inl (((BitVec.ofInt 32 (a / 2) ^^^ BitVec.ofInt 32 3558460437).toNat : Int), b, c, (d : Int))) else some (Sum.inl (a / 2, b, c, (d : Int)))) = (some (Sum.inl (bitS a, b, c, (d : Int))) : Option ((Int × List UInt8 × Int × Int) ⊕ ((Int × List UInt8 × Int) ⊕ Int))) := by
      unfold bitS
      by_cases h : a % 2 = 1
      · rw [if_pos h, beq_iff_eq.2 h]; rfl
      · rw [if_neg h, beq_eq_false_iff_ne.2 h]; rfl
    rw [hs]
    simp only [Option.bind_some, Sum.elim_inl]
    rw [wrap_ok (by omega) (by omega)]
    exact ih
theorem l_implBits {b : List UInt8} {c : Int} : ∀ (m n d : Nat) (a : Int), m < n → d + m = 8 → 0 ≤ a → a < 4294967296 → L_impl_SumMore_1 n (a, b, c, (d : Int)) = some (.inl (bitN m a, b, c))
  | 0, n, d, a, hn, hd, h0, h1 => by
    obtain ⟨n, rfl⟩ : ∃ j, n = j + 1 := ⟨n - 1, by omega⟩
    rw [e_L_impl_SumMore_1, decide_eq_false (by omega)]; rfl
  | m + 1, n, d, a, hn, hd, h0, h1 => by
    obtain ⟨n, rfl⟩ : ∃ j, n = j + 1 := ⟨n - 1, by omega⟩
    have hb := bitS_in h0 h1
    have ih := l_implBits (b := b) (c := c) m n (d + 1) (bitS a) (by omega) (by omega) hb.1 hb.2
    have h2 : a.fdiv (2 ^ 1) = a / 2 := by rw [Int.fdiv_eq_ediv_of_nonneg _ (by decide)]; rfl
    have h3 : ((BitVec.ofInt 32 a &&& BitVec.ofInt 32 1).toNat : Int) = a % 2 := by
      rw [BitVec.toNat_and, toNat_u32 h0 h1, show (BitVec.ofInt 32 1).toNat = 1 from rfl, Nat.and_one_is_mod]
      omega
    rw [e_L_impl_SumMore_1, decide_eq_true (by omega), cond_true, h2, h3, u32w (n := a % 2) (by omega) (by omega)]
    have hx := (BitVec.ofInt 32 (a / 2) ^^^ BitVec.ofInt 32 3558460437).isLt
    rw [u32w (n := (((BitVec.ofInt 32 (a / 2) ^^^ BitVec.ofInt 32 3558460437).toNat : Nat) : Int)) (by omega) (by omega)]
    have hs : (bif a % 2 == 1 then some (Sum.inl (((BitVec.ofInt 32 (a / 2) ^^^ BitVec.ofInt 32 3558460437).toNat : Int), b, c, (d : Int))) else some (Sum.inl (a / 2, b, c, (d : Int)))) = (some (Sum.inl (bitS a, b, c, (d : Int))) : Option ((Int × List UInt8 × Int × Int) ⊕ ((Int × List UInt8 × Int) ⊕ Int))) := by
      unfold bitS
      by_cases h : a % 2 = 1
      · rw [if_pos h, beq_iff_eq.2 h]; rfl
      · rw [if_neg h, beq_eq_false_iff_ne.2 h]; rfl
    rw [hs]
    simp only [Option.bind_some, Sum.elim_inl]
    rw [wrap_ok (by omega) (by omega)]
    exact ih
def sumS (s : Int) (c : UInt8) : Int := bitN 8 ((BitVec.ofInt 32 s ^^^ BitVec.ofInt 32 (c.toNat : Int)).toNat : Int)
theorem sumS_in (s : Int) (c : UInt8) : 0 ≤ sumS s c ∧ sumS s c < 4294967296 := by
  have := (BitVec.ofInt 32 s ^^^ BitVec.ofInt 32 (c.toNat : Int)).isLt
  exact bitN_in 8 (by omega) (by omega)
def sumV (a : List UInt8) : Int := a.foldl sumS 4294967295
theorem x_SumOf {b : List UInt8} (hl : b.length ≤ 4294967296) : T_spec_SumOf b = some (sumV b) ∧ T_impl_SumOf b = some (sumV b) := by
  constructor
  · rw [e_T_spec_SumOf, e_T_spec_SumMore]
    obtain ⟨s, h1, h2⟩ := loop_all (L := L_spec_SumMore_2) b (fun s c => (s, b, c)) (fun s => s) (fun i s => s = (b.take i).foldl sumS 4294967295) (fun i y s hy hi hI => ⟨sumS s y, by rw [take_succ' hy, List.foldl_append, ← hI]; rfl, fun n => by
      have hc := y.toNat_lt
      have hx := (BitVec.ofInt 32 s ^^^ BitVec.ofInt 32 (y.toNat : Int)).isLt
      rw [e_L_spec_SumMore_2]
      simp only [show ((i : Int) < (b.length : Int)) by omega, decide_true, cond_true, Int.natCast_nonneg, if_true, Int.toNat_natCast, List.getD_eq_getElem?_getD, hy, Option.getD_some]
      rw [u32w (n := (y.toNat : Int)) (by omega) (by omega), u32w (n := (((BitVec.ofInt 32 s ^^^ BitVec.ofInt 32 (y.toNat : Int)).toNat : Nat) : Int)) (by omega) (by omega)]
      rw [show (0 : Int) = ((0 : Nat) : Int) from rfl, l_specBits 8 fuel 0 _ (by decide) rfl (by omega) (by omega)]
      simp only [Option.bind_some, Sum.elim_inl]
      rw [wrap_ok (by omega) (by omega)]; rfl⟩) (fun n s _ => by rw [e_L_spec_SumMore_2]; simp) (by rw [maxLen_eq]; omega) 4294967295 rfl
    rw [h2, h1, List.take_length]; rfl
  · rw [e_T_impl_SumOf, e_T_impl_SumMore]
    obtain ⟨s, h1, h2⟩ := loop_all (L := L_impl_SumMore_2) b (fun s c => (s, b, c)) (fun s => s) (fun i s => s = (b.take i).foldl sumS 4294967295) (fun i y s hy hi hI => ⟨sumS s y, by rw [take_succ' hy, List.foldl_append, ← hI]; rfl, fun n => by
      have hc := y.toNat_lt
      have hx := (BitVec.ofInt 32 s ^^^ BitVec.ofInt 32 (y.toNat : Int)).isLt
      rw [e_L_impl_SumMore_2]
      simp only [show ((i : Int) < (b.length : Int)) by omega, decide_true, cond_true, Int.natCast_nonneg, if_true, Int.toNat_natCast, List.getD_eq_getElem?_getD, hy, Option.getD_some]
      rw [u32w (n := (y.toNat : Int)) (by omega) (by omega), u32w (n := (((BitVec.ofInt 32 s ^^^ BitVec.ofInt 32 (y.toNat : Int)).toNat : Nat) : Int)) (by omega) (by omega)]
      rw [show (0 : Int) = ((0 : Nat) : Int) from rfl, l_implBits 8 fuel 0 _ (by decide) rfl (by omega) (by omega)]
      simp only [Option.bind_some, Sum.elim_inl]
      rw [wrap_ok (by omega) (by omega)]; rfl⟩) (fun n s _ => by rw [e_L_impl_SumMore_2]; simp) (by rw [maxLen_eq]; omega) 4294967295 rfl
    rw [h2, h1, List.take_length]; rfl
/-- A sum's bytes. -/
def four (a : Int) : List UInt8 := List.map (fun (n : (ET.int IntKind.u8).den) => UInt8.ofNat (Int.toNat n)) [IntKind.u8.wrap (a.fdiv (2 ^ 24)), IntKind.u8.wrap (a.fdiv (2 ^ 16)), IntKind.u8.wrap (a.fdiv (2 ^ 8)), IntKind.u8.wrap a]
theorem four_len (a : Int) : (four a).length = 4 := by simp [four]
/-- What a sealed text holds. -/
def unS (a : List UInt8) : List UInt8 × Bool := if 4 ≤ a.length ∧ a.length ≤ 20004 ∧ a.drop (a.length - 4) = four (sumV (a.take (a.length - 4))) then (a.take (a.length - 4), true) else ([], false)
theorem x_Unsealed {a : List UInt8} (hl : a.length ≤ 4294967296) : T_spec_Unsealed a = some (unS a) ∧ T_impl_Unsealed a = some (unS a) := by
  rw [e_T_spec_Unsealed, e_T_impl_Unsealed, wrap_ok (n := (a.length : Int) - 4) (by omega) (by omega)]
  unfold unS
  by_cases h4 : 4 ≤ a.length
  · have e : (a.length : Int) - 4 = ((a.length - 4 : Nat) : Int) := by omega
    rw [e]
    by_cases h2 : a.length ≤ 20004
    · have hs := x_SumOf (b := a.take (a.length - 4)) (by rw [List.length_take]; omega)
      simp only [show ¬ ((a.length - 4 : Nat) : Int) < 0 by omega, show ¬ (20000 : Int) < ((a.length - 4 : Nat) : Int) by omega, decide_false, cond_false, Int.natCast_nonneg, show ((a.length - 4 : Nat) : Int) ≤ (a.length : Int) by omega, and_self, if_true, Int.toNat_natCast, List.drop_zero, hs.1, Option.bind_some, e_T_spec_l02Four, e_T_impl_sumText, hs.2, List.take_length, h4, h2, true_and]
      rw [show List.map (fun (n : (ET.int IntKind.u8).den) => UInt8.ofNat (Int.toNat n)) [IntKind.u8.wrap ((sumV (a.take (a.length - 4))).fdiv (2 ^ 24)), IntKind.u8.wrap ((sumV (a.take (a.length - 4))).fdiv (2 ^ 16)), IntKind.u8.wrap ((sumV (a.take (a.length - 4))).fdiv (2 ^ 8)), IntKind.u8.wrap (sumV (a.take (a.length - 4)))] = four (sumV (a.take (a.length - 4))) from rfl]
      by_cases hq : a.drop (a.length - 4) = four (sumV (a.take (a.length - 4)))
      · have q1 : (a.drop (a.length - 4) == four (sumV (a.take (a.length - 4)))) = true := by rw [hq]; simp
        have q2 : (four (sumV (a.take (a.length - 4))) == a.drop (a.length - 4)) = true := by rw [hq]; simp
        simp only [q1, q2, Bool.not_true, Sum.elim_inl, cond_false, Int.natCast_nonneg, show ((a.length - 4 : Nat) : Int) ≤ (a.length : Int) by omega, and_self, if_true, Int.toNat_natCast, List.drop_zero, if_pos hq]
      · have q1 : (a.drop (a.length - 4) == four (sumV (a.take (a.length - 4)))) = false := beq_eq_false_iff_ne.2 hq
        have q2 : (four (sumV (a.take (a.length - 4))) == a.drop (a.length - 4)) = false := beq_eq_false_iff_ne.2 (Ne.symm hq)
        simp only [q1, q2, Bool.not_false, Sum.elim_inl, cond_true, if_neg hq, and_self]
    · simp only [show ¬ ((a.length - 4 : Nat) : Int) < 0 by omega, show (20000 : Int) < ((a.length - 4 : Nat) : Int) by omega, decide_false, decide_true, cond_false, cond_true, Option.bind_some, Sum.elim_inl, h2, and_false, false_and, if_false, and_self]
  · simp only [show (a.length : Int) - 4 < 0 by omega, decide_true, cond_true, Option.bind_some, Sum.elim_inl, h4, false_and, if_false, and_self]
theorem vEnc_len5 : ∀ (k n : Nat), n < 128 ^ (k + 1) → (vEnc n).length ≤ k + 1
  | 0, n, h => by rw [vEnc_lo (by simp at h; omega)]; simp
  | k + 1, n, h => by
    by_cases hn : 127 < n
    · rw [vEnc_hi hn, List.length_cons]
      have := vEnc_len5 k (n / 128) (by rw [Nat.pow_succ] at h; omega)
      omega
    · rw [vEnc_lo (by omega)]; simp
theorem vEnc_l5 {n : Nat} (h : n ≤ 1000000000) : (vEnc n).length ≤ 5 := vEnc_len5 4 n (by have : (128 : Nat) ^ 5 = 34359738368 := rfl; omega)
/-- Numbers, one behind the other. -/
def NRun (T : List UInt8 × Int × Bool → Option (Int × List UInt8 × Int × Bool)) (a : List UInt8) : Nat → Nat → Bool → List Int → Nat → Bool → Prop
  | 0, p, b, ts, p', b' => ts = [] ∧ p' = p ∧ b' = b
  | n + 1, p, b, ts, p', b' => ∃ (t : Int) (l : List Int) (p1 : Nat) (b1 : Bool), ts = t :: l ∧ T (a, (p : Int), b) = some (t, a, (p1 : Int), b1) ∧ p1 ≤ a.length ∧ (b1 = false → b = false) ∧ NRun T a n p1 b1 l p' b'
theorem NRun.clear {T : List UInt8 × Int × Bool → Option (Int × List UInt8 × Int × Bool)} {a : List UInt8} : ∀ {n p : Nat} {b : Bool} {ts : List Int} {p' : Nat} {b' : Bool}, NRun T a n p b ts p' b' → b' = false → b = false
  | 0, _, _, _, _, _, h, h' => by rw [← h.2.2]; exact h'
  | n + 1, _, _, _, _, _, h, h' => by
    obtain ⟨t, l, p1, b1, _, _, _, h1, h2⟩ := h
    exact h1 (h2.clear h')
theorem nums_step {a : List UInt8} (ha : a.length ≤ 4294967296) : ∀ (n p q : Nat) (bs bi : Bool), p ≤ a.length → q ≤ a.length → (bi = false → bs = false ∧ q = p) →
    ∃ (ts us : List Int) (p' q' : Nat) (bs' bi' : Bool), NRun T_spec_l05Var a n p bs ts p' bs' ∧ NRun T___impl_scanner__number a n q bi us q' bi' ∧ ts.length = n ∧ us.length = n ∧ (∀ t ∈ ts, 0 ≤ t ∧ t ≤ 1000000000) ∧
      Stp a p q bs bi p' q' bs' bi' (ts.flatMap fun t => vEnc t.toNat) (us = ts) False
  | 0, p, q, bs, bi, hp, hq, hl => ⟨[], [], p, q, bs, bi, ⟨rfl, rfl, rfl⟩, ⟨rfl, rfl, rfl⟩, rfl, rfl, by simp, hp, hq, fun h => ⟨h, (hl h).1, (hl h).2, rfl⟩, fun h => ⟨h, Rd.refl hp⟩, fun _ h1 h2 => by rw [h1] at h2; cases h2⟩
  | n + 1, p, q, bs, bi, hp, hq, hl => by
    obtain ⟨t, u, p1, q1, bs1, bi1, e1, e2, l1, l2, S⟩ := num_step ha hp hq hl
    obtain ⟨ts, us, p2, q2, bs2, bi2, r1, r2, g1, g2, g3, S2⟩ := nums_step ha n p1 q1 bs1 bi1 S.hp S.hq (fun h => ⟨(S.go h).2.1, (S.go h).2.2.1⟩)
    refine ⟨(t : Int) :: ts, (u : Int) :: us, p2, q2, bs2, bi2, ⟨t, ts, p1, bs1, rfl, e1, S.hp, fun h => (S.rd h).1, r1⟩, ⟨u, us, q1, bi1, rfl, e2, S.hq, fun h => (S.go h).1, r2⟩, by simp [g1], by simp [g2], ?_, (S.trans S2).mono ?_ ?_⟩
    · intro x hx
      rcases List.mem_cons.1 hx with rfl | hx
      · omega
      · exact g3 x hx
    · rintro ⟨rfl, rfl⟩; rfl
    · rintro (h | h) <;> exact h
/-- A step along a token's wants. -/
def wS (c : Int) (f : List Int) (i : Nat) (y : Int) (_ : Unit) : Option (Unit ⊕ Bool) :=
  bif !decide (1 ≤ y ∧ y ≤ c) then some (.inr false) else bif decide (0 < i) then (f[i - 1]?).bind fun z => some (bif decide (y ≤ z) then .inr false else .inl ()) else some (.inl ())
theorem each_w (c : Int) (f : List Int) (h : f.length ≤ maxLen) : (each (wS c f) 0 f () = some (.inl ()) ∧ ∀ y ∈ f, 1 ≤ y ∧ y ≤ c) ∨ each (wS c f) 0 f () = some (.inr false) := by
  rcases each_rule (step := wS c f) (fun k _ => ∀ i y, i < k → f[i]? = some y → 1 ≤ y ∧ y ≤ c) (fun r => r = false) f 0 () (fun i y h => by omega) (fun i y s hy hI => by
    rw [Nat.zero_add] at hI
    simp only [wS, Nat.zero_add]
    by_cases h1 : 1 ≤ y ∧ y ≤ c
    · have hI' : ∀ j z, j < i + 1 → f[j]? = some z → 1 ≤ z ∧ z ≤ c := fun j z hj hz => by
        by_cases hji : j = i
        · subst hji; rw [hy] at hz; cases hz; exact h1
        · exact hI j z (by omega) hz
      rw [decide_eq_true h1, Bool.not_true, cond_false]
      by_cases h0 : 0 < i
      · have hi := (List.getElem?_eq_some_iff.1 hy).1
        rw [decide_eq_true h0, cond_true, List.getElem?_eq_getElem (by omega), Option.bind_some]
        cases decide (y ≤ f[i - 1])
        · exact .inl ⟨(), rfl, hI'⟩
        · exact .inr ⟨false, rfl, rfl⟩
      · rw [decide_eq_false h0]
        exact .inl ⟨(), rfl, hI'⟩
    · rw [decide_eq_false h1]
      exact .inr ⟨false, rfl, rfl⟩) with ⟨s, h1, h2⟩ | ⟨r, h1, rfl⟩
  · refine .inl ⟨h1, fun y hy => ?_⟩
    obtain ⟨i, hi⟩ := List.getElem?_of_mem hy
    exact h2 i y (by have := (List.getElem?_eq_some_iff.1 hi).1; omega) hi
  · exact .inr h1
theorem l_specW {a b c d e : Int} {f : List Int} (h : f.length ≤ 1048576) : L_spec_TokenOk_1 fuel ((a, b, c, d, e, f), 0) = each (wS c f) 0 f () := by
  rw [each_loop (L := L_spec_TokenOk_1) f (fun (_ : Unit) g => ((a, b, c, d, e, f), g)) (fun _ => ()) (wS c f) (fun n t i y hy => ?_) (fun n s => by rw [e_L_spec_TokenOk_1]; simp) (by rw [maxLen_eq]; omega) ()]
  · cases each (wS c f) 0 f () with
    | none => rfl
    | some q => cases q <;> rfl
  · have hlt := (List.getElem?_eq_some_iff.1 hy).1
    rw [e_L_spec_TokenOk_1]
    simp only [show ((i : Int) < (f.length : Int)) by omega, decide_true, cond_true, Int.natCast_nonneg, if_true, Int.toNat_natCast, hy, Option.bind_some, wrap_ok (n := (i : Int) + 1) (by omega) (by omega), wS, (x_inRange _ _ _).1]
    cases decide (1 ≤ y ∧ y ≤ c)
    · rfl
    · by_cases h0 : 0 < i
      · have e1 : IntKind.i64.wrap ((i : Int) - 1) = ((i - 1 : Nat) : Int) := by rw [wrap_ok (by omega) (by omega)]; omega
        simp only [Bool.not_true, cond_false, show (0 : Int) < (i : Int) by omega, decide_true, cond_true, e1, Int.natCast_nonneg, if_true, Int.toNat_natCast, h0, List.getElem?_eq_getElem (show i - 1 < f.length by omega), Option.bind_some, Sum.elim_inl]
        cases decide (y ≤ f[i - 1]) <;> simp only [cond_true, cond_false, Option.bind_some, Sum.elim_inl, Sum.elim_inr, wrap_ok (n := (i : Int) + 1) (by omega) (by omega)]
      · simp only [Bool.not_true, cond_false, show ¬ (0 : Int) < (i : Int) by omega, decide_false, h0, Option.bind_some, Sum.elim_inl, wrap_ok (n := (i : Int) + 1) (by omega) (by omega)]
theorem l_implW {a b c d e : Int} {f : List Int} (h : f.length ≤ 1048576) : L_impl_TokenOk_1 fuel ((a, b, c, d, e, f), f, (f.length : Int), 0) = (each (wS c f) 0 f ()).bind (Sum.elim (fun _ => some (.inl (a, b, c, d, e, f))) fun r => some (.inr r)) := by
  refine each_loop (L := L_impl_TokenOk_1) f (fun (_ : Unit) g => ((a, b, c, d, e, f), f, (f.length : Int), g)) (fun _ => (a, b, c, d, e, f)) (wS c f) (fun n t i y hy => ?_) (fun n s => by rw [e_L_impl_TokenOk_1]; simp) (by rw [maxLen_eq]; omega) ()
  have hlt := (List.getElem?_eq_some_iff.1 hy).1
  rw [e_L_impl_TokenOk_1]
  simp only [show ((i : Int) < (f.length : Int)) by omega, decide_true, cond_true, Int.natCast_nonneg, if_true, Int.toNat_natCast, hy, Option.bind_some, wrap_ok (n := (i : Int) + 1) (by omega) (by omega), wS, (x_inRange _ _ _).2]
  cases decide (1 ≤ y ∧ y ≤ c)
  · rfl
  · by_cases h0 : 0 < i
    · have e1 : IntKind.i64.wrap ((i : Int) - 1) = ((i - 1 : Nat) : Int) := by rw [wrap_ok (by omega) (by omega)]; omega
      simp only [Bool.not_true, cond_false, show (0 : Int) < (i : Int) by omega, decide_true, cond_true, e1, Int.natCast_nonneg, if_true, Int.toNat_natCast, h0, List.getElem?_eq_getElem (show i - 1 < f.length by omega), Option.bind_some, Sum.elim_inl]
      cases decide (y ≤ f[i - 1]) <;> simp only [cond_true, cond_false, Option.bind_some, Sum.elim_inl, Sum.elim_inr, wrap_ok (n := (i : Int) + 1) (by omega) (by omega)]
    · simp only [Bool.not_true, cond_false, show ¬ (0 : Int) < (i : Int) by omega, decide_false, h0, Option.bind_some, Sum.elim_inl, wrap_ok (n := (i : Int) + 1) (by omega) (by omega)]
theorem x_TokenOk {a b c d e : Int} {f : List Int} (h : f.length ≤ 1048576) : ∃ v, T_spec_TokenOk (a, b, c, d, e, f) = some v ∧ T_impl_TokenOk (a, b, c, d, e, f) = some v ∧ (v = true → (1 ≤ a ∧ a ≤ 9) ∧ (1 ≤ b ∧ b ≤ 1000000000) ∧ (0 ≤ c ∧ c ≤ 60) ∧ (0 ≤ d ∧ d ≤ c) ∧ (0 ≤ e ∧ e ≤ 5) ∧ f.length ≤ 20 ∧ ∀ y ∈ f, 1 ≤ y ∧ y ≤ c) := by
  rw [e_T_spec_TokenOk, e_T_impl_TokenOk]
  simp only [(x_inRange _ _ _).1, (x_inRange _ _ _).2, Option.bind_some, bif_bind, Sum.elim_inl, l_specW h, l_implW h]
  by_cases h1 : 1 ≤ a ∧ a ≤ 9
  · by_cases h2 : 1 ≤ b ∧ b ≤ 1000000000
    · by_cases h3 : 0 ≤ c ∧ c ≤ 60
      · by_cases h4 : 0 ≤ d ∧ d ≤ c
        · by_cases h5 : 0 ≤ e ∧ e ≤ 5
          · by_cases h6 : f.length ≤ 20
            · rcases each_w c f (by rw [maxLen_eq]; omega) with ⟨h7, h8⟩ | h7
              · exact ⟨true, by simp [h1, h2, h3, h4, h5, h7, show ¬ (20 : Int) < (f.length : Int) by omega], by simp [h1, h2, h3, h4, h5, h7, show (f.length : Int) ≤ 20 by omega], fun _ => ⟨h1, h2, h3, h4, h5, h6, h8⟩⟩
              · exact ⟨false, by simp [h1, h2, h3, h4, h5, h7, show ¬ (20 : Int) < (f.length : Int) by omega], by simp [h1, h2, h3, h4, h5, h7], fun h => by cases h⟩
            · refine ⟨false, by simp [h1, h2, h3, h4, h5, show (20 : Int) < (f.length : Int) by omega], ?_, fun h => by cases h⟩
              rcases each_w c f (by rw [maxLen_eq]; omega) with ⟨h7, _⟩ | h7 <;> simp [h1, h2, h3, h4, h5, h7, show ¬ (f.length : Int) ≤ 20 by omega]
          · refine ⟨false, by simp [h1, h2, h3, h4, h5], ?_, fun h => by cases h⟩
            have d5 : (decide (0 ≤ e) && decide (e ≤ 5)) = false := by rw [← Bool.decide_and]; exact decide_eq_false h5
            rcases each_w c f (by rw [maxLen_eq]; omega) with ⟨h7, _⟩ | h7 <;> simp [h1, h2, h3, h4, d5, h7]
        · refine ⟨false, by simp [h1, h2, h3, h4], ?_, fun h => by cases h⟩
          have d4 : (decide (0 ≤ d) && decide (d ≤ c)) = false := by rw [← Bool.decide_and]; exact decide_eq_false h4
          rcases each_w c f (by rw [maxLen_eq]; omega) with ⟨h7, _⟩ | h7 <;> simp [h1, h2, h3, d4, h7]
      · exact ⟨false, by simp [h1, h2, h3], by simp [h1, h2, h3], fun h => by cases h⟩
    · exact ⟨false, by simp [h1, h2], by simp [h1, h2], fun h => by cases h⟩
  · exact ⟨false, by simp [h1], by simp [h1], fun h => by cases h⟩
/-- Bytes that were written are read again. -/
theorem nat_ofNat {n : Nat} (h : n < 256) : (UInt8.ofNat n).toNat = n := by simp; omega
theorem rvS_fwd : ∀ (k i acc m v : Nat) (t : List UInt8), (vEnc v).length ≤ k → acc + v * m ≤ 1000000000 → (0 < i → 0 < v) → rvS k i acc m (vEnc v ++ t) = some (acc + v * m, i + (vEnc v).length)
  | 0, _, _, _, v, _, h, _, _ => by
    exfalso
    have := vEnc_ne v
    exact this (List.length_eq_zero_iff.1 (by omega))
  | k + 1, i, acc, m, v, t, h, h1, h2 => by
    by_cases hv : 127 < v
    · have e : v % 128 * m + v / 128 * (m * 128) = v * m := by
        have h3 : v * m = (128 * (v / 128) + v % 128) * m := by rw [Nat.div_add_mod]
        rw [h3, Nat.add_mul, Nat.mul_comm m 128, ← Nat.mul_assoc, Nat.mul_comm (v / 128) 128, Nat.add_comm]
      rw [vEnc_hi hv, List.length_cons] at h ⊢
      simp only [List.cons_append, rvS]
      have hc : (UInt8.ofNat (v % 128 + 128)).toNat = v % 128 + 128 := nat_ofNat (by omega)
      rw [hc, if_neg (by omega), Nat.add_sub_cancel, rvS_fwd k (i + 1) _ (m * 128) (v / 128) t (by omega) (by rw [Nat.add_assoc, e]; exact h1) (fun _ => by omega), Nat.add_assoc acc, e]
      congr 2
      omega
    · rw [vEnc_lo (by omega)] at h ⊢
      simp only [List.cons_append, List.nil_append, rvS, List.length_singleton]
      rw [nat_ofNat (by omega), if_pos (by omega), if_neg (by rintro (⟨h3, h4⟩ | h3) <;> omega)]
theorem Rd.cut {a s t : List UInt8} {p q : Nat} (hp : p ≤ a.length) (h : Rd a p q (s ++ t)) : Rd a p (p + s.length) s ∧ Rd a (p + s.length) q t := by
  obtain ⟨h1, h2⟩ := h
  have hl := congrArg List.length h2
  simp only [List.length_drop, List.length_append] at hl
  have h3 : a.drop (p + s.length) = t ++ a.drop q := by
    rw [← List.drop_drop, h2, List.append_assoc, List.drop_left]
  exact ⟨⟨by omega, by rw [h3, h2, List.append_assoc]⟩, h1, h3⟩
theorem Rd.whole (a : List UInt8) : Rd a 0 a.length a := ⟨Nat.le_refl _, by simp⟩
theorem Rd.len {a s : List UInt8} {p q : Nat} (hp : p ≤ a.length) (h : Rd a p q s) : q = p + s.length := by
  obtain ⟨h1, h2⟩ := h
  have hl := congrArg List.length h2
  simp only [List.length_drop, List.length_append] at hl
  omega
theorem F_num {a : List UInt8} {p q v : Nat} (hp : p ≤ a.length) (h : Rd a p q (vEnc v)) (hv : v ≤ 1000000000) : numR a p false = ((v : Int), a, (q : Int), false) := by
  have hq := h.len hp
  unfold numR
  rw [h.2, rvS_fwd 5 0 0 1 v _ (vEnc_l5 hv) (by omega) (fun h => by omega)]
  simp only [cond_false, Nat.zero_add, Nat.mul_one, hq]
theorem F_one {a : List UInt8} {p q d : Nat} (hp : p ≤ a.length) (h : Rd a p q [UInt8.ofNat d]) (hd : d < 256) : oneR a p false = ((d : Int), a, (q : Int), false) := by
  have hq := h.len hp
  unfold oneR
  rw [h.2]
  simp only [cond_false, List.cons_append, List.nil_append, nat_ofNat hd, hq, List.length_singleton]
theorem F_sh {a t : List UInt8} {p q lim : Nat} (hp : p ≤ a.length) (h : Rd a p q (shT t)) (ht : t.length ≤ lim) (ht2 : t.length ≤ 1000000000) : shR lim a p false = (t, a, (q : Int), false) := by
  have hq := h.len hp
  obtain ⟨h1, h2⟩ := Rd.cut hp (show Rd a p q (vEnc t.length ++ t) from h)
  have hl := congrArg List.length h2.2
  simp only [List.length_drop, List.length_append] at hl
  have hq1 := h1.1
  have hqa := h2.1
  unfold shR
  rw [h1.2, rvS_fwd 5 0 0 1 t.length _ (vEnc_l5 ht2) (by omega) (fun h => by omega)]
  simp only [cond_false, Nat.zero_add, Nat.mul_one]
  rw [decide_eq_false (by omega)]
  try simp only [cond_false]
  unfold takR
  rw [decide_eq_false (by omega), h2.2, List.take_left]
  simp only [Bool.or_false, cond_false, Prod.mk.injEq, true_and, and_true]
  have := h2.len (by omega)
  omega
theorem sp_wants {x a : List UInt8} {z : Int × Int × Int × Int × Int × List Int} {k1 k2 k3 k4 k5 : Int} {n : Nat} (hn : n ≤ 1000000000) : ∀ (m i p : Nat) (b : Bool) (gs ts : List Int) (p' : Nat) (b' : Bool) (f : Nat), m < f → i + m = min n 50 → gs.length = i → p ≤ a.length → NRun T_spec_l05Var a m p b ts p' b' →
    ∃ (gs' : List Int) (p'' : Nat), L_spec_ReadToken_1 f (x, z, (a, (p : Int), b), (k1, k2, k3, k4, k5, gs), (n : Int), (i : Int)) = some (.inl (x, z, (a, (p'' : Int), b'), (k1, k2, k3, k4, k5, gs'))) ∧ p'' ≤ a.length ∧ gs'.length ≤ 50 ∧ (b' = false → gs' = gs ++ ts ∧ p'' = p')
  | 0, i, p, b, gs, ts, p', b', f, hf, hi, hu, hp, h => by
    obtain ⟨f, rfl⟩ : ∃ g, f = g + 1 := ⟨f - 1, by omega⟩
    obtain ⟨rfl, rfl, rfl⟩ := h
    refine ⟨gs, p', ?_, hp, by omega, fun _ => ⟨by simp, rfl⟩⟩
    obtain ⟨z1, z2, z3, z4, z5, z6⟩ := z
    rw [e_L_spec_ReadToken_1]
    by_cases h1 : (i : Int) < (n : Int)
    · simp only [h1, show ¬ (i : Int) < 50 by omega, decide_true, decide_false, cond_true, cond_false, Option.bind_some, Sum.elim_inl]
    · simp only [h1, decide_false, cond_false, Option.bind_some, Sum.elim_inl]
  | m + 1, i, p, b, gs, ts, p', b', f, hf, hi, hu, hp, h => by
    obtain ⟨f, rfl⟩ : ∃ g, f = g + 1 := ⟨f - 1, by omega⟩
    have hc := h.clear
    obtain ⟨t, l', p1, b1, rfl, h1, h2, h4, h5⟩ := h
    obtain ⟨z1, z2, z3, z4, z5, z6⟩ := z
    rw [e_L_spec_ReadToken_1]
    simp only [show (i : Int) < (n : Int) by omega, show (i : Int) < 50 by omega, decide_true, cond_true, Option.bind_some, Sum.elim_inl]
    cases b with
    | true =>
      have hb' : b' = true := by
        cases hb : b' with
        | true => rfl
        | false => have := hc hb; cases this
      refine ⟨gs, p, ?_, hp, by omega, fun h => by rw [hb'] at h; cases h⟩
      rw [hb']; rfl
    | false =>
      obtain ⟨gs', p'', ih, i1, i2, i4⟩ := sp_wants (x := x) (z := (z1, z2, z3, z4, z5, z6)) (k1 := k1) (k2 := k2) (k3 := k3) (k4 := k4) (k5 := k5) hn m (i + 1) p1 b1 (gs ++ [t]) l' p' b' f (by omega) (by omega) (by simp [hu]) h2 h5
      refine ⟨gs', p'', ?_, i1, i2, fun hb => ?_⟩
      · simp only [Bool.not_false, cond_true, h1, Option.bind_some, List.length_cons, List.length_nil]
        rw [if_pos ⟨by omega, by omega⟩, wrap_ok (by omega) (by omega)]
        exact ih
      · obtain ⟨j1, j2⟩ := i4 hb
        exact ⟨by rw [j1, List.append_assoc]; rfl, j2⟩
theorem im_wants {a : List UInt8} {z : Int × Int × Int × Int × Int × List Int} {k1 k2 k3 k4 k5 : Int} {n : Nat} (hn : n ≤ 1000000) : ∀ (m i q : Nat) (b : Bool) (us ts : List Int) (q' : Nat) (b' : Bool) (f : Nat), m < f → i + m = n → us.length = i → NRun T___impl_scanner__number a m q b ts q' b' →
    L_impl_ReadToken_1 f (z, (a, (q : Int), b), (k1, k2, k3, k4, k5, us), (n : Int), (i : Int)) = some (.inl (z, (a, (q' : Int), b'), (k1, k2, k3, k4, k5, us ++ ts)))
  | 0, i, q, b, us, ts, q', b', f, hf, hi, hu, h => by
    obtain ⟨f, rfl⟩ : ∃ g, f = g + 1 := ⟨f - 1, by omega⟩
    obtain ⟨rfl, rfl, rfl⟩ := h
    obtain ⟨z1, z2, z3, z4, z5, z6⟩ := z
    rw [e_L_impl_ReadToken_1, decide_eq_false (by omega), List.append_nil]; rfl
  | m + 1, i, q, b, us, ts, q', b', f, hf, hi, hu, h => by
    obtain ⟨f, rfl⟩ : ∃ g, f = g + 1 := ⟨f - 1, by omega⟩
    obtain ⟨t, l, p1, b1, rfl, h1, h2, h4, h5⟩ := h
    have ih := im_wants (z := z) (k1 := k1) (k2 := k2) (k3 := k3) (k4 := k4) (k5 := k5) hn m (i + 1) p1 b1 (us ++ [t]) l q' b' f (by omega) (by omega) (by simp [hu]) h5
    obtain ⟨z1, z2, z3, z4, z5, z6⟩ := z
    rw [e_L_impl_ReadToken_1, decide_eq_true (by omega), cond_true, h1, Option.bind_some]
    simp only [List.length_cons, List.length_nil]
    rw [if_pos ⟨by omega, by omega⟩, wrap_ok (by omega) (by omega)]
    rw [List.append_assoc] at ih
    exact ih
/-- A token's bytes, unsealed. -/
def tokT (a b c d e : Nat) (f : List Int) : List UInt8 := [UInt8.ofNat a] ++ vEnc b ++ vEnc c ++ vEnc d ++ [UInt8.ofNat e] ++ vEnc f.length ++ f.flatMap fun t => vEnc t.toNat
theorem nums_len : ∀ {c : List Int}, (∀ t ∈ c, 0 ≤ t ∧ t ≤ 1000000000) → (c.flatMap fun t => vEnc t.toNat).length ≤ c.length * 5
  | [], _ => by simp
  | t :: c, h => by
    have h0 := h t (by simp)
    have h1 := vEnc_l5 (n := t.toNat) (by omega)
    have h2 := nums_len (c := c) (fun x hx => h x (by simp [hx]))
    simp only [List.flatMap_cons, List.length_append, List.length_cons, Nat.add_mul, Nat.one_mul]; omega
theorem v_TokenText {a b c d e : Nat} {f : List Int} {v : Bool} (hv : T_spec_TokenOk ((a : Int), (b : Int), (c : Int), (d : Int), (e : Int), f) = some v) (hf : v = true → (a : Int) ≤ 9 ∧ (b : Int) ≤ 1000000000 ∧ (c : Int) ≤ 60 ∧ (d : Int) ≤ 60 ∧ (e : Int) ≤ 5 ∧ f.length ≤ 20 ∧ ∀ y ∈ f, 0 ≤ y ∧ y ≤ 60) :
    T_spec_TokenText ((a : Int), (b : Int), (c : Int), (d : Int), (e : Int), f) = some (bif v then (tokT a b c d e f ++ four (sumV (tokT a b c d e f)), true) else ([], false)) := by
  rw [e_T_spec_TokenText, hv]
  cases v with
  | false => rfl
  | true =>
    obtain ⟨f1, f2, f3, f4, f5, f6, f7⟩ := hf rfl
    have l2 := vEnc_l5 (n := b) (by omega)
    have l3 := vEnc_l5 (n := c) (by omega)
    have l4 := vEnc_l5 (n := d) (by omega)
    have l6 := vEnc_l5 (n := f.length) (by omega)
    have l7 := nums_len (c := f) (fun t ht => by have := f7 t ht; omega)
    have l8 : f.length * 5 ≤ 20 * 5 := Nat.mul_le_mul_right _ f6
    have wa : T_spec_l05Byte (a : Int) = some [UInt8.ofNat a] := by rw [v_byte (by omega) (by omega)]; rfl
    have we : T_spec_l05Byte (e : Int) = some [UInt8.ofNat e] := by rw [v_byte (by omega) (by omega)]; rfl
    simp only [Option.bind_some, Bool.not_true, cond_false, wa, we, v_l01Var (a := (b : Int)) (by omega) (by omega), v_l01Var (a := (c : Int)) (by omega) (by omega), v_l01Var (a := (d : Int)) (by omega) (by omega), v_l01Var (a := (f.length : Int)) (by omega) (by omega), Int.toNat_natCast]
    rw [if_neg (by simp only [List.length_append, List.length_singleton]; omega), if_neg (by simp only [List.length_append, List.length_singleton]; omega), if_neg (by simp only [List.length_append, List.length_singleton]; omega), if_neg (by simp only [List.length_append, List.length_singleton]; omega), if_neg (by simp only [List.length_append, List.length_singleton]; omega)]
    let t0 : List UInt8 := [UInt8.ofNat a] ++ vEnc b ++ vEnc c ++ vEnc d ++ [UInt8.ofNat e] ++ vEnc f.length
    have ht0 : t0.length ≤ 30 := by simp only [t0, List.length_append, List.length_singleton]; omega
    obtain ⟨s, h1, h2⟩ := loop_all (L := L_spec_TokenText_1) f (fun s g => (((a : Int), (b : Int), (c : Int), (d : Int), (e : Int), f), s, g)) (fun s => s) (fun i s => s = t0 ++ (f.take i).flatMap fun t => vEnc t.toNat) (fun i y s hy hi hI => ⟨t0 ++ (f.take (i + 1)).flatMap fun t => vEnc t.toNat, rfl, fun n => by
      have hyl := f7 y (List.mem_of_getElem? hy)
      have hsy := vEnc_l5 (n := y.toNat) (by omega)
      have hci := nums_len (c := f.take i) (fun x hx => by have := f7 x (List.mem_of_mem_take hx); omega)
      rw [List.length_take] at hci
      have hci2 : min i f.length * 5 ≤ 20 * 5 := Nat.mul_le_mul_right _ (by omega)
      subst hI
      rw [e_L_spec_TokenText_1]
      simp only [show ((i : Int) < (f.length : Int)) by omega, decide_true, cond_true, Int.natCast_nonneg, if_true, Int.toNat_natCast, hy, Option.bind_some, v_l01Var (a := y) (by omega) (by omega)]
      rw [if_neg (by simp only [List.length_append]; omega), wrap_ok (by omega) (by omega), take_succ' hy]
      simp only [List.flatMap_append, List.flatMap_cons, List.flatMap_nil, List.append_nil, List.append_assoc]⟩) (fun n s _ => by rw [e_L_spec_TokenText_1]; simp) (by rw [maxLen_eq]; omega) t0 (by simp)
    show (L_spec_TokenText_1 fuel (((a : Int), (b : Int), (c : Int), (d : Int), (e : Int), f), t0, 0)).bind _ = _
    rw [h2]
    rw [List.take_length] at h1
    have hs : s = tokT a b c d e f := h1
    have hsl : s.length ≤ 200 := by rw [h1, List.length_append]; omega
    simp only [Option.bind_some, Sum.elim_inl]
    rw [e_T_spec_Sealed, decide_eq_false (by omega), cond_false, (x_SumOf (by omega)).1, Option.bind_some, e_T_spec_l02Four]
    have h4 := four_len (sumV s)
    show ((if (((s.length + (four (sumV s)).length : Nat) : Int)) > 9223372036854775807 then none else some (s ++ four (sumV s), true)).bind _ : Option (List UInt8 × Bool)) = _
    rw [if_neg (by omega), hs]; rfl
theorem r_ReadToken {x : List UInt8} (hx : x.length ≤ 1048576) : ∃ r, T_spec_ReadToken x = some r ∧ T_impl_ReadToken x = some r ∧ r.1.2.2.2.2.2.length ≤ 50 ∧ (r.2 = true → T_spec_TokenText r.1 = some (x, true)) := by
  obtain ⟨u1, u2⟩ := x_Unsealed (a := x) (by omega)
  have hun : ∃ (a : List UInt8) (ok : Bool), unS x = (a, ok) ∧ a.length ≤ x.length ∧ (ok = true → ∀ t : List UInt8, (t ++ four (sumV t) == x) = (t == a)) := by
    unfold unS
    by_cases h : 4 ≤ x.length ∧ x.length ≤ 20004 ∧ x.drop (x.length - 4) = four (sumV (x.take (x.length - 4)))
    · rw [if_pos h]
      refine ⟨_, true, rfl, by rw [List.length_take]; omega, fun _ t => ?_⟩
      by_cases ht : t = x.take (x.length - 4)
      · have : t ++ four (sumV t) = x := by
          rw [ht, ← h.2.2]; exact List.take_append_drop _ _
        rw [beq_iff_eq.2 this, beq_iff_eq.2 ht]
      · have : ¬ t ++ four (sumV t) = x := fun e => ht (by
          have h4 := four_len (sumV t)
          have hl := congrArg List.length e
          rw [List.length_append] at hl
          conv => rhs; rw [← e]
          have hh : (t ++ four (sumV t)).length - 4 = t.length := by rw [List.length_append]; omega
          rw [hh, List.take_left])
        rw [beq_eq_false_iff_ne.2 this, beq_eq_false_iff_ne.2 ht]
    · rw [if_neg h]
      exact ⟨[], false, rfl, by simp, fun h => by cases h⟩
  obtain ⟨a, ok, hun, hal, hback⟩ := hun
  rw [hun] at u1 u2
  have ha4 : a.length ≤ 4294967296 := by omega
  obtain ⟨k1, k1', p1, q1, bs1, bi1, e1, e1', lk1, lk1', S1⟩ := one_step (bs := !ok) (bi := !ok) ha4 (Nat.zero_le a.length) (Nat.zero_le a.length) (fun h => ⟨h, rfl⟩)
  have L1 : bi1 = false → bs1 = false ∧ q1 = p1 := fun h => ⟨(S1.go h).2.1, (S1.go h).2.2.1⟩
  obtain ⟨k2, k2', p2, q2, bs2, bi2, e2, e2', lk2, lk2', S2⟩ := num_step ha4 S1.hp S1.hq L1
  have L2 : bi2 = false → bs2 = false ∧ q2 = p2 := fun h => ⟨(S2.go h).2.1, (S2.go h).2.2.1⟩
  obtain ⟨k3, k3', p3, q3, bs3, bi3, e3, e3', lk3, lk3', S3⟩ := num_step ha4 S2.hp S2.hq L2
  have L3 : bi3 = false → bs3 = false ∧ q3 = p3 := fun h => ⟨(S3.go h).2.1, (S3.go h).2.2.1⟩
  obtain ⟨k4, k4', p4, q4, bs4, bi4, e4, e4', lk4, lk4', S4⟩ := num_step ha4 S3.hp S3.hq L3
  have L4 : bi4 = false → bs4 = false ∧ q4 = p4 := fun h => ⟨(S4.go h).2.1, (S4.go h).2.2.1⟩
  obtain ⟨k5, k5', p5, q5, bs5, bi5, e5, e5', lk5, lk5', S5⟩ := one_step ha4 S4.hp S4.hq L4
  have L5 : bi5 = false → bs5 = false ∧ q5 = p5 := fun h => ⟨(S5.go h).2.1, (S5.go h).2.2.1⟩
  obtain ⟨n, n', p6, q6, bs6, bi6, e6, e6', l6, l6', S6⟩ := num_step ha4 S5.hp S5.hq L5
  let bi6' : Bool := bif decide (20 < n') then true else bi6
  let m' : Nat := bif decide (20 < n') then 0 else n'
  have L6 : bi6' = false → bs6 = false ∧ q6 = p6 := fun h => by
    have h0 : bi6 = false := by
      by_cases h3 : 20 < n'
      · simp only [bi6', decide_eq_true h3, cond_true] at h; cases h
      · simpa only [bi6', decide_eq_false h3, cond_false] using h
    exact ⟨(S6.go h0).2.1, (S6.go h0).2.2.1⟩
  have ecount : T___impl_scanner__count ((a, (q5 : Int), bi5), 20) = some ((m' : Int), a, (q6 : Int), bi6') := by
    rw [e_T___impl_scanner__count, e6', Option.bind_some]
    by_cases h3 : 20 < n'
    · simp only [show (20 : Int) < (n' : Int) by omega, decide_true, cond_true, bi6', m', h3]; rfl
    · simp only [show ¬ (20 : Int) < (n' : Int) by omega, decide_false, cond_false, bi6', m', h3]
  have hm' : m' ≤ 20 := by
    by_cases h3 : 20 < n'
    · simp [m', h3]
    · simp [m', h3]; omega
  have hrun : ∃ (ts us : List Int) (p7 q7 : Nat) (bs7 bi7 : Bool), NRun T_spec_l05Var a (min n 50) p6 bs6 ts p7 bs7 ∧ NRun T___impl_scanner__number a m' q6 bi6' us q7 bi7 ∧ ts.length = min n 50 ∧ us.length = m' ∧
      Stp a p6 q6 bs6 bi6 p7 q7 bs7 bi7 (ts.flatMap fun t => vEnc t.toNat) (us = ts ∧ us.length = n') (20 < n) := by
    obtain ⟨ts, us0, p7, q70, bs7, bi70, r7, r70, t1, u01, t2, S7⟩ := nums_step ha4 (min n 50) p6 q6 bs6 bi6' S6.hp S6.hq L6
    obtain ⟨_, us, _, q7, _, bi7, _, r7', _, u1, _, S73⟩ := nums_step ha4 m' p6 q6 bs6 bi6' S6.hp S6.hq L6
    by_cases hb : bi6' = false
    · have h3 : ¬ 20 < n' := fun h3 => by simp only [bi6', decide_eq_true h3, cond_true] at hb; cases hb
      have hbb : bi6 = false := by simpa only [bi6', decide_eq_false h3, cond_false] using hb
      have hm : m' = n' := by simp only [m', decide_eq_false h3, cond_false]
      have hnn : n' = n := (S6.go hbb).2.2.2
      have hmin : min n 50 = m' := by omega
      rw [hmin] at r70 u01
      refine ⟨ts, us0, p7, q70, bs7, bi70, r7, r70, t1, u01, S7.hp, S7.hq, fun h => ?_, S7.rd, fun h1 _ h2 => (S7.far h1 hb h2).elim⟩
      obtain ⟨g1, g2, g3, g4⟩ := S7.go h
      exact ⟨hbb, g2, g3, g4, by omega⟩
    · have hb7 : bi7 = false → False := fun h => hb (S73.go h).1
      refine ⟨ts, us, p7, q7, bs7, bi7, r7, r7', t1, u1, S7.hp, S73.hq, fun h => (hb7 h).elim, S7.rd, fun h1 h0 _ => ?_⟩
      by_cases h3 : 20 < n'
      · rw [← (S6.go h0).2.2.2]; exact h3
      · exact absurd (by simp only [bi6', decide_eq_false h3, cond_false]; exact h0) hb
  obtain ⟨ts, us, p7, q7, bs7, bi7, r7, r7', t1, u1', S7⟩ := hrun
  obtain ⟨gs, p7', eg, g1, g2, g4⟩ := sp_wants (x := x) (z := (0, 0, 0, 0, 0, [])) (k1 := (k1 : Int)) (k2 := (k2 : Int)) (k3 := (k3 : Int)) (k4 := (k4 : Int)) (k5 := (k5 : Int)) l6 (min n 50) 0 p6 bs6 [] ts p7 bs7 fuel (by simp only [fuel]; omega) (by omega) rfl S6.hp r7
  have eim := im_wants (z := (0, 0, 0, 0, 0, [])) (k1 := (k1' : Int)) (k2 := (k2' : Int)) (k3 := (k3' : Int)) (k4 := (k4' : Int)) (k5 := (k5' : Int)) (n := m') (by omega) m' 0 q6 bi6' [] us q7 bi7 fuel (by simp only [fuel]; omega) (by omega) rfl r7'
  rw [List.nil_append] at eim
  have S7' : Stp a p6 q6 bs6 bi6 p7' q7 bs7 bi7 (gs.flatMap fun t => vEnc t.toNat) (us = gs ∧ us.length = n') (20 < n ∧ gs.length = min n 50) := by
    refine ⟨g1, S7.hq, fun h => ?_, fun h => ?_, fun h h0 h1 => ?_⟩
    · obtain ⟨k1, k2, k3, k4, k5⟩ := S7.go h
      obtain ⟨j1, j2⟩ := g4 k2
      exact ⟨k1, k2, by rw [j2]; exact k3, by rw [j1]; exact k4, k5⟩
    · obtain ⟨j1, j2⟩ := g4 h
      rw [j1, j2]; exact S7.rd h
    · obtain ⟨j1, j2⟩ := g4 h
      rw [j1, List.nil_append]
      exact ⟨S7.far h h0 h1, t1⟩
  have S := (((((S1.trans S2).trans S3).trans S4).trans S5).trans S6).trans S7'
  obtain ⟨v, v1, v2, v3⟩ := x_TokenOk (a := (k1 : Int)) (b := (k2 : Int)) (c := (k3 : Int)) (d := (k4 : Int)) (e := (k5 : Int)) (f := gs) (by omega)
  obtain ⟨v', v1', v2', v3'⟩ := x_TokenOk (a := (k1' : Int)) (b := (k2' : Int)) (c := (k3' : Int)) (d := (k4' : Int)) (e := (k5' : Int)) (f := us) (by omega)
  have hT := v_TokenText v1 (fun h => by
    obtain ⟨w1, w2, w3, w4, w5, w6, w7⟩ := v3 h
    exact ⟨w1.2, w2.2, w3.2, by omega, w5.2, w6, fun y hy => by have := w7 y hy; omega⟩)
  have es : T_spec_ReadToken x = some (bif bs7 || (!v || !(tokT k1 k2 k3 k4 k5 gs ++ four (sumV (tokT k1 k2 k3 k4 k5 gs)) == x)) then ((0, 0, 0, 0, 0, []), false) else (((k1 : Int), (k2 : Int), (k3 : Int), (k4 : Int), (k5 : Int), gs), true)) := by
    rw [e_T_spec_ReadToken, u1]
    simp only [Option.bind_some]
    rw [show (0 : Int) = ((0 : Nat) : Int) from rfl, e1]
    simp only [Option.bind_some, e2, e3, e4, e5, e6]
    rw [show ((0 : Nat) : Int) = (0 : Int) from rfl] at eg ⊢
    rw [eg]
    simp only [Option.bind_some, Sum.elim_inl, hT]
    cases bs7 <;> cases v <;> simp <;> (cases tokT k1 k2 k3 k4 k5 gs ++ four (sumV (tokT k1 k2 k3 k4 k5 gs)) == x <;> rfl)
  have ei : T_impl_ReadToken x = some (bif bi7 || (!((q7 : Int) == (a.length : Int)) || !v') then ((0, 0, 0, 0, 0, []), false) else (((k1' : Int), (k2' : Int), (k3' : Int), (k4' : Int), (k5' : Int), us), true)) := by
    rw [e_T_impl_ReadToken, u2]
    simp only [Option.bind_some]
    rw [show (0 : Int) = ((0 : Nat) : Int) from rfl, e1']
    simp only [Option.bind_some, e2', e3', e4', e5', ecount]
    rw [show ((0 : Nat) : Int) = (0 : Int) from rfl] at eim ⊢
    rw [eim]
    simp only [Option.bind_some, Sum.elim_inl, e_T___impl_scanner__done, v2']
    cases bi7 <;> cases v' <;> simp <;> (cases ((q7 : Int) == (a.length : Int)) <;> rfl)
  cases hb : bi7 with
  | false =>
    obtain ⟨hok, hbs, hq, ⟨⟨⟨⟨⟨h1, h2⟩, h3⟩, h4⟩, h5⟩, hn⟩, hus, hul⟩ := S.go hb
    subst h1 h2 h3 h4 h5 hus hq
    rw [v1] at v1'
    cases v1'
    rw [es, ei, hbs, hb]
    cases hv : v with
    | false => exact ⟨_, rfl, by simp, Nat.zero_le _, fun h => by simp at h⟩
    | true =>
      have hTT : (tokT k1' k2' k3' k4' k5' us ++ four (sumV (tokT k1' k2' k3' k4' k5' us)) == x) = ((q7 : Int) == (a.length : Int)) := by
        rw [hback (by simpa using hok), ← (S.rd hbs).2.all, ← hn, ← hul]; rfl
      rw [← hTT]
      cases hqq : (tokT k1' k2' k3' k4' k5' us ++ four (sumV (tokT k1' k2' k3' k4' k5' us)) == x) with
      | false => exact ⟨_, rfl, rfl, Nat.zero_le _, fun h => by simp at h⟩
      | true =>
        rw [hv, eq_of_beq hqq] at hT
        exact ⟨_, rfl, rfl, g2, fun _ => hT⟩
  | true =>
    have hz : (bs7 || (!v || !(tokT k1 k2 k3 k4 k5 gs ++ four (sumV (tokT k1 k2 k3 k4 k5 gs)) == x))) = true := by
      cases hbs : bs7 with
      | true => rfl
      | false =>
        have hv : v = false := by
          cases hv : v with
          | false => rfl
          | true =>
            obtain ⟨_, _, _, _, _, w6, _⟩ := v3 hv
            rcases S.far hbs (S.rd hbs).1 hb with (((((h | h) | h) | h) | h) | h) | ⟨h, h'⟩
            · exact h.elim
            · exact h.elim
            · exact h.elim
            · exact h.elim
            · exact h.elim
            · exact h.elim
            · omega
        rw [hv]; rfl
    rw [es, ei, hz, hb]
    exact ⟨_, rfl, rfl, Nat.zero_le _, fun h => by simp at h⟩
theorem fuel2 : fuel = 18446744073709551614 + 1 + 1 := rfl
theorem and255 (z : BitVec 64) : IntKind.i64.wrap (((z &&& BitVec.ofInt 64 255).toNat : Nat) : Int) = (((z &&& BitVec.ofInt 64 255).toNat : Nat) : Int) ∧ (z &&& BitVec.ofInt 64 255).toNat ≤ 255 := by
  have h : (z &&& BitVec.ofInt 64 255).toNat ≤ 255 := by
    rw [BitVec.toNat_and, show (BitVec.ofInt 64 255).toNat = 255 from rfl]
    exact Nat.and_le_right
  exact ⟨wrap_ok (by omega) (by omega), h⟩
/-- A drawn byte. -/
theorem x_Byte {a : List Int} {b c : Int} (ha : a.length ≤ 1048576) (hb : 0 ≤ b) : ∃ x b' c', T_spec_l01Byte (a, b, c) = some (x, a, b', c') ∧ 0 ≤ x ∧ x ≤ 255 ∧ 0 ≤ b' := by
  rw [e_T_spec_l01Byte]
  generalize IntKind.i64.wrap (IntKind.i64.wrap (c * 6364136223846793005) + 1442695040888963407) = h
  by_cases hlt : b < (a.length : Int)
  · have hy : a[b.toNat]? = some (a[b.toNat]'(by omega)) := List.getElem?_eq_getElem (by omega)
    simp only [hlt, decide_true, cond_true, hb, if_true, hy, Option.bind_some, Sum.elim_inl]
    refine ⟨_, _, _, rfl, ?_, ?_, ?_⟩
    · rw [(and255 _).1]; omega
    · rw [(and255 _).1]; have := (and255 (BitVec.ofInt 64 (IntKind.i64.wrap (IntKind.i64.wrap (((BitVec.ofInt 64 (IntKind.i64.wrap (((BitVec.ofInt 64 (h.fdiv (2 ^ 33)) ^^^ BitVec.ofInt 64 (h.fdiv (2 ^ 45))).toNat : Nat) : Int)) &&& BitVec.ofInt 64 255).toNat : Nat) : Int) + IntKind.i64.wrap a[b.toNat])))).2; omega
    · rw [wrap_ok (by omega) (by omega)]; omega
  · simp only [hlt, decide_false, cond_false, Option.bind_some, Sum.elim_inl]
    refine ⟨_, _, _, rfl, ?_, ?_, hb⟩
    · rw [(and255 _).1]; omega
    · rw [(and255 _).1]; have := (and255 (BitVec.ofInt 64 (IntKind.i64.wrap (((BitVec.ofInt 64 (h.fdiv (2 ^ 33)) ^^^ BitVec.ofInt 64 (h.fdiv (2 ^ 45))).toNat : Nat) : Int)))).2; omega
theorem x_Below {a : List Int} {b c n : Int} (ha : a.length ≤ 1048576) (hb : 0 ≤ b) (hn : n ≤ 256) : ∃ x b' c', T_spec_l01Below ((a, b, c), n) = some (x, a, b', c') ∧ 0 ≤ x ∧ (0 < n → x < n) ∧ x ≤ 255 ∧ 0 ≤ b' := by
  rw [e_T_spec_l01Below]
  by_cases h0 : n ≤ 0
  · exact ⟨0, b, c, by simp [h0], by omega, by omega, by omega, hb⟩
  · obtain ⟨x, b', c', h1, h2, h3, h4⟩ := x_Byte (c := c) ha hb
    refine ⟨x.tmod n, b', c', ?_, ?_, fun _ => ?_, ?_, h4⟩
    · simp only [h0, hn, decide_false, decide_true, cond_false, cond_true, h1, Option.bind_some, if_neg (show ¬ n = 0 by omega)]
    · exact Int.tmod_nonneg _ h2
    · exact Int.tmod_lt_of_pos _ (by omega)
    · have := Int.tmod_lt_of_pos x (show 0 < n by omega); omega
theorem x_PickInt {a : List Int} {b c : Int} {l : List Int} (ha : a.length ≤ 1048576) (hb : 0 ≤ b) (hl : 0 < l.length) (hl2 : l.length ≤ 256) : ∃ x b' c', T_spec_l01PickInt ((a, b, c), l) = some (x, a, b', c') ∧ x ∈ l ∧ 0 ≤ b' := by
  obtain ⟨r, b', c', h1, h2, h3, _, h4⟩ := x_Below (c := c) (n := (l.length : Int)) ha hb (by omega)
  have hr : r.toNat < l.length := by have := h3 (by omega); omega
  refine ⟨l[r.toNat], b', c', ?_, List.getElem_mem hr, h4⟩
  rw [e_T_spec_l01PickInt, h1]
  simp only [Option.bind_some, h2, if_true, List.getElem?_eq_getElem hr]
theorem l_New {a : List Int} (ha : a.length ≤ 1048576) : ∀ (m i n : Nat) (h : Int), m < n → i + m = min a.length 4000 → ∃ h', L_spec_l01New_1 n (a, h, (i : Int)) = some (.inl (a, h'))
  | 0, i, n, h, hn, hi => by
    obtain ⟨n, rfl⟩ : ∃ j, n = j + 1 := ⟨n - 1, by omega⟩
    rw [e_L_spec_l01New_1]
    by_cases h1 : (i : Int) < (a.length : Int)
    · exact ⟨h, by simp only [h1, show ¬ (i : Int) < 4000 by omega, decide_true, decide_false, cond_true, cond_false, Option.bind_some, Sum.elim_inl]⟩
    · exact ⟨h, by simp only [h1, decide_false, cond_false, Option.bind_some, Sum.elim_inl]⟩
  | m + 1, i, n, h, hn, hi => by
    obtain ⟨n, rfl⟩ : ∃ j, n = j + 1 := ⟨n - 1, by omega⟩
    rw [e_L_spec_l01New_1]
    have hy : a[i]? = some (a[i]'(by omega)) := List.getElem?_eq_getElem (by omega)
    simp only [show (i : Int) < (a.length : Int) by omega, show (i : Int) < 4000 by omega, decide_true, cond_true, Option.bind_some, Sum.elim_inl, Int.natCast_nonneg, if_true, Int.toNat_natCast, hy]
    rw [wrap_ok (n := (i : Int) + 1) (by omega) (by omega)]
    exact l_New ha m (i + 1) n _ (by omega) (by omega)
theorem x_New {a : List Int} (ha : a.length ≤ 1048576) : ∃ h, T_spec_l01New a = some (a, 0, h) := by
  obtain ⟨h, h1⟩ := l_New ha (min a.length 4000) 0 fuel (IntKind.i64.wrap (27101 + (a.length : Int))) (by simp only [fuel]; omega) (by omega)
  refine ⟨h, ?_⟩
  rw [e_T_spec_l01New]
  rw [show ((0 : Nat) : Int) = (0 : Int) from rfl] at h1
  rw [h1]; rfl
theorem l_Text {a : List Int} (ha : a.length ≤ 1048576) {d : Nat} (hd : d ≤ 5000) : ∀ (m i n : Nat) (b c : Int) (e : List Int), m < n → i + m = d → 0 ≤ b → e.length = i → ∃ b' c' e', L_spec_l01Text_1 n ((a, b, c), (d : Int), e, (i : Int)) = some (.inl ((a, b', c'), e')) ∧ 0 ≤ b' ∧ e'.length = d
  | 0, i, n, b, c, e, hn, hi, hb, he => by
    obtain ⟨n, rfl⟩ : ∃ j, n = j + 1 := ⟨n - 1, by omega⟩
    rw [e_L_spec_l01Text_1, decide_eq_false (by omega)]
    exact ⟨b, c, e, rfl, hb, by omega⟩
  | m + 1, i, n, b, c, e, hn, hi, hb, he => by
    obtain ⟨n, rfl⟩ : ∃ j, n = j + 1 := ⟨n - 1, by omega⟩
    obtain ⟨x, b', c', h1, _, _, h4⟩ := x_Byte (c := c) ha hb
    rw [e_L_spec_l01Text_1, decide_eq_true (by omega), cond_true, h1, Option.bind_some]
    simp only [List.length_singleton]
    rw [if_pos ⟨by omega, by omega⟩, wrap_ok (by omega) (by omega)]
    exact l_Text ha hd m (i + 1) n b' c' _ (by omega) (by omega) h4 (by simp [he])
theorem x_Text {a : List Int} {b c : Int} {d : Nat} (ha : a.length ≤ 1048576) (hb : 0 ≤ b) (hd : d ≤ 5000) : ∃ s b' c', T_spec_l01Text ((a, b, c), (d : Int)) = some (s, a, b', c') ∧ s.length = d ∧ 0 ≤ b' := by
  obtain ⟨b', c', e', h1, h2, h3⟩ := l_Text ha hd d 0 fuel b c [] (by simp only [fuel]; omega) (by omega) hb rfl
  rw [show ((0 : Nat) : Int) = (0 : Int) from rfl] at h1
  refine ⟨List.map (fun (n : (ET.int IntKind.u8).den) => UInt8.ofNat (Int.toNat n)) e', b', c', ?_, ?_, h2⟩
  · rw [e_T_spec_l01Text, decide_eq_false (by omega)]
    simp only [cond_false, Option.bind_some, Sum.elim_inl, h1]
  · rw [List.length_map]; exact h3
theorem x_Spoilt {a : List Int} {b c : Int} {d : List UInt8} (ha : a.length ≤ 1048576) (hb : 0 ≤ b) (hd : d.length ≤ 250) : ∃ s b' c', T_spec_l02Spoilt ((a, b, c), d) = some (s, a, b', c') ∧ s.length ≤ 251 ∧ 0 ≤ b' := by
  rw [e_T_spec_l02Spoilt]
  obtain ⟨r, b1, c1, h1, h2, h3, _, h4⟩ := x_Below (c := c) (n := 12) ha hb (by omega)
  rw [h1]
  simp only [Option.bind_some]
  obtain ⟨t, b2, c2, g1, g2, g3⟩ := x_Text (c := c1) (d := 1) ha h4 (by omega)
  rw [show ((1 : Nat) : Int) = (1 : Int) from rfl] at g1
  cases r == 0 with
  | true =>
    simp only [cond_true, g1, Option.bind_some]
    rw [if_neg (by omega)]
    exact ⟨_, b2, c2, rfl, by rw [List.length_append]; omega, g3⟩
  | false =>
    cases r == 1 with
    | true =>
      obtain ⟨q, b3, c3, k1, k2, k3, _, k4⟩ := x_Below (c := c1) (n := (d.length : Int) + 1) ha h4 (by omega)
      have hq := k3 (by omega)
      rw [wrap_ok (n := (d.length : Int) + 1) (by omega) (by omega)]
      simp only [cond_true, cond_false, k1, Option.bind_some]
      rw [if_pos ⟨k2, by omega⟩]
      exact ⟨_, b3, c3, rfl, by rw [List.drop_zero, List.length_take]; omega, k4⟩
    | false =>
      have hflag : ∃ fl : Bool, (bif r == 2 then some (Sum.inl ((a, b1, c1), d, true)) else some (Sum.inl ((a, b1, c1), d, r == 3))) = (some (Sum.inl ((a, b1, c1), d, fl)) : Option (((List Int × Int × Int) × List UInt8 × Bool) ⊕ (((List Int × Int × Int) × List UInt8) ⊕ (List UInt8 × List Int × Int × Int)))) := by
        cases r == 2
        · exact ⟨_, rfl⟩
        · exact ⟨_, rfl⟩
      obtain ⟨fl, hfl⟩ := hflag
      simp only [cond_false]
      rw [hfl]
      simp only [Option.bind_some, Sum.elim_inl]
      cases fl with
      | false => exact ⟨d, b1, c1, rfl, by omega, h4⟩
      | true =>
        by_cases hd0 : 0 < (d.length : Int)
        · obtain ⟨q, b3, c3, k1, k2, k3, _, k4⟩ := x_Below (c := c1) (n := (d.length : Int)) ha h4 (by omega)
          have hq := k3 hd0
          obtain ⟨u, b4, c4, m1, m2, m3⟩ := x_Text (c := c3) (d := 1) ha k4 (by omega)
          rw [show ((1 : Nat) : Int) = (1 : Int) from rfl] at m1
          simp only [cond_true, decide_eq_true hd0, k1, Option.bind_some]
          rw [if_pos ⟨k2, by omega⟩, m1]
          simp only [Option.bind_some]
          rw [if_neg (by simp only [List.drop_zero, List.length_take]; omega), wrap_ok (n := q + 1) (by omega) (by omega), if_pos ⟨by omega, by omega⟩,
            if_neg (by simp only [List.drop_zero, List.length_append, List.length_drop, List.length_take]; omega)]
          simp only [Option.bind_some, Sum.elim_inr]
          exact ⟨_, b4, c4, rfl, by simp only [List.drop_zero, List.length_append, List.length_drop, List.length_take]; omega, m3⟩
        · simp only [cond_true, decide_eq_false hd0, cond_false, Option.bind_some, Sum.elim_inl]
          exact ⟨d, b1, c1, rfl, by omega, h4⟩
theorem x_Once {a : List Int} {b c n : Int} (ha : a.length ≤ 1048576) (hb : 0 ≤ b) (hn : n ≤ 256) : ∃ x b' c', T_spec_l01Once ((a, b, c), n) = some (x, a, b', c') ∧ 0 ≤ b' := by
  obtain ⟨r, b', c', h1, _, _, _, h4⟩ := x_Below (c := c) (n := n) ha hb hn
  exact ⟨_, b', c', by rw [e_T_spec_l01Once, h1]; rfl, h4⟩
theorem l_varI : ∀ (k n : Nat) (b : List Int), k < n → b.length + k ≤ 4294967296 → ∃ (k' : Nat) (b' : List Int), L_impl_varText_1 n ((k : Int), b) = some (.inl ((k' : Int), b')) ∧ k' ≤ 127 ∧ b'.length ≤ b.length + k ∧ b'.map (fun x => UInt8.ofNat x.toNat) ++ [UInt8.ofNat k'] = b.map (fun x => UInt8.ofNat x.toNat) ++ vEnc k := by
  intro k
  induction k using Nat.strongRecOn with
  | _ k ih =>
    intro n b hn hb
    obtain ⟨m, rfl⟩ : ∃ m, n = m + 1 := ⟨n - 1, by omega⟩
    rw [e_L_impl_varText_1]
    by_cases h : 127 < k
    · have h1 : (127 : Int) < (k : Int) := by omega
      have e1 : IntKind.i64.wrap (128 + (k : Int).tmod 128) = ((k % 128 + 128 : Nat) : Int) := by
        rw [Int.tmod_eq_emod_of_nonneg (by omega), wrap_ok (by omega) (by omega)]; omega
      have e2 : IntKind.i64.wrap ((k : Int).tdiv 128) = ((k / 128 : Nat) : Int) := by
        rw [Int.tdiv_eq_ediv_of_nonneg (by omega), wrap_ok (by omega) (by omega)]; omega
      simp only [h1, decide_true, cond_true, e1, e2, List.length_singleton]
      rw [if_pos (by omega), u8w (by omega) (by omega)]
      obtain ⟨k', b', h2, h3, h4, h5⟩ := ih (k / 128) (by omega) m (b.append [((k % 128 + 128 : Nat) : Int)]) (by omega) (by simp; omega)
      refine ⟨k', b', h2, h3, by simp at h4; omega, ?_⟩
      rw [h5, vEnc_hi h]
      simp only [List.append_eq, List.map_append, List.map_cons, List.map_nil, Int.toNat_natCast, List.append_assoc, List.cons_append, List.nil_append]
    · have h1 : ¬ (127 : Int) < (k : Int) := by omega
      simp only [h1, decide_false, cond_false]
      exact ⟨k, b, rfl, by omega, by omega, by rw [vEnc_lo (by omega)]⟩
theorem v_varText {a : Int} (h0 : 0 ≤ a) (h1 : a ≤ 2147483648) : T_impl_varText a = some (vEnc a.toNat) := by
  obtain ⟨k, rfl⟩ : ∃ k : Nat, a = (k : Int) := ⟨a.toNat, by omega⟩
  rw [e_T_impl_varText]
  obtain ⟨k', b', h2, h3, h4, h5⟩ := l_varI k fuel [] (by simp only [fuel]; omega) (by simp; omega)
  rw [h2]
  simp only [Option.bind_some, Sum.elim_inl, List.length_singleton]
  simp at h4
  rw [if_pos (by omega), u8w (by omega) (by omega)]
  simp only [List.map_nil, List.nil_append] at h5
  simp only [Option.some.injEq, Int.toNat_natCast]
  rw [← h5]
  simp
theorem v_octets {l : List Int} (hl : l.length ≤ 1048576) (h : ∀ x ∈ l, 0 ≤ x ∧ x < 256) : T_impl_octets l = some (l.map fun x => UInt8.ofNat x.toNat) := by
  obtain ⟨s, h1, h2⟩ := loop_all (L := L_impl_octets_1) l (fun s i => (s, l, (l.length : Int), i)) (fun s => s) (fun i s => s = l.take i) (fun i y s hy hi hI => ⟨l.take (i + 1), rfl, fun n => by
    have hyv := h y (List.mem_of_getElem? hy)
    subst hI
    rw [e_L_impl_octets_1, take_succ' hy]
    simp only [show ((i : Int) < (l.length : Int)) by omega, decide_true, cond_true, Int.natCast_nonneg, if_true, Int.toNat_natCast, hy, Option.bind_some, List.length_take, List.length_cons, List.length_nil]
    rw [if_pos ⟨by omega, by omega⟩, u8w hyv.1 hyv.2, wrap_ok (by omega) (by omega)]
    rfl⟩) (fun n s _ => by rw [e_L_impl_octets_1]; simp) (by rw [maxLen_eq]; omega) [] rfl
  rw [e_T_impl_octets, h2, h1]
  simp only [Option.bind_some, Sum.elim_inl, List.take_length]
theorem v_write {s t : List UInt8} (h : s.length + t.length ≤ 140737488355328) : T___strings_Builder__WriteString (s, t) = some ((t.length : Int), (), s ++ t) := by
  rw [T___strings_Builder__WriteString, if_pos h]
theorem v_string {s : List UInt8} (h : s ≠ []) : T___strings_Builder__String s = some s := by
  rw [T___strings_Builder__String]
  cases s with
  | nil => exact absurd rfl h
  | cons x s => rfl
theorem unS_back {t : List UInt8} (h : t.length ≤ 20000) : unS (t ++ four (sumV t)) = (t, true) := by
  have h4 := four_len (sumV t)
  have hl : (t ++ four (sumV t)).length - 4 = t.length := by rw [List.length_append]; omega
  unfold unS
  rw [hl, List.take_left, List.drop_left, if_pos ⟨by rw [List.length_append]; omega, by rw [List.length_append]; omega, rfl⟩]
theorem NR_fwd {a : List UInt8} (ha : a.length ≤ 4294967296) : ∀ (fs : List Int) (p q : Nat), p ≤ a.length → Rd a p q (fs.flatMap fun t => vEnc t.toNat) → (∀ y ∈ fs, 0 ≤ y ∧ y ≤ 1000000000) → NRun T___impl_scanner__number a fs.length p false fs q false
  | [], p, q, hp, h, _ => by
    have := h.len hp
    exact ⟨rfl, by simpa using this, rfl⟩
  | y :: fs, p, q, hp, h, hy => by
    simp only [List.flatMap_cons] at h
    obtain ⟨h1, h2⟩ := Rd.cut hp h
    have hy1 := hy y (by simp)
    have e := F_num hp h1 (by omega)
    have h1l := h1.1
    refine ⟨y, fs, p + (vEnc y.toNat).length, false, rfl, ?_, h1l, fun _ => rfl, NR_fwd ha fs _ q h1l h2 (fun z hz => hy z (by simp [hz]))⟩
    rw [n_impl hp ha, e, Int.toNat_of_nonneg hy1.1]
theorem x_Sealed {s : List UInt8} (h : s.length ≤ 20000) : T_spec_Sealed s = some (s ++ four (sumV s), true) ∧ T_impl_Sealed s = some (s ++ four (sumV s), true) := by
  have h4 := four_len (sumV s)
  constructor
  · rw [e_T_spec_Sealed, decide_eq_false (by omega), cond_false, (x_SumOf (by omega)).1, Option.bind_some, e_T_spec_l02Four]
    show ((if (((s.length + (four (sumV s)).length : Nat) : Int)) > 9223372036854775807 then none else some (s ++ four (sumV s), true)) : Option (List UInt8 × Bool)) = _
    rw [if_neg (by omega)]
  · rw [e_T_impl_Sealed, decide_eq_false (by omega), cond_false, e_T_impl_sumText, (x_SumOf (by omega)).2, Option.bind_some, Option.bind_some]
    show ((if (((s.length + (four (sumV s)).length : Nat) : Int)) > 9223372036854775807 then none else some (s ++ four (sumV s), true)) : Option (List UInt8 × Bool)) = _
    rw [if_neg (by omega)]
theorem v_ITokenText {a b c d e : Nat} {f : List Int} {v : Bool} (hv : T_impl_TokenOk ((a : Int), (b : Int), (c : Int), (d : Int), (e : Int), f) = some v) (hf : v = true → (a : Int) ≤ 9 ∧ (b : Int) ≤ 1000000000 ∧ (c : Int) ≤ 60 ∧ (d : Int) ≤ 60 ∧ (e : Int) ≤ 5 ∧ f.length ≤ 20 ∧ ∀ y ∈ f, 0 ≤ y ∧ y ≤ 60) :
    T_impl_TokenText ((a : Int), (b : Int), (c : Int), (d : Int), (e : Int), f) = some (bif v then (tokT a b c d e f ++ four (sumV (tokT a b c d e f)), true) else ([], false)) := by
  rw [e_T_impl_TokenText, hv]
  cases v with
  | false => rfl
  | true =>
    obtain ⟨f1, f2, f3, f4, f5, f6, f7⟩ := hf rfl
    have l2 := vEnc_l5 (n := b) (by omega)
    have l3 := vEnc_l5 (n := c) (by omega)
    have l4 := vEnc_l5 (n := d) (by omega)
    have l6 := vEnc_l5 (n := f.length) (by omega)
    have l7 := nums_len (c := f) (fun t ht => by have := f7 t ht; omega)
    have l8 : f.length * 5 ≤ 20 * 5 := Nat.mul_le_mul_right _ f6
    have wa : T_impl_octets [(a : Int)] = some [UInt8.ofNat a] := by
      rw [v_octets (by simp) (fun x hx => by rw [List.mem_singleton.1 hx]; omega)]; rfl
    have we : T_impl_octets [(e : Int)] = some [UInt8.ofNat e] := by
      rw [v_octets (by simp) (fun x hx => by rw [List.mem_singleton.1 hx]; omega)]; rfl
    simp only [Option.bind_some, Bool.not_true, cond_false, wa, we, v_varText (a := (b : Int)) (by omega) (by omega), v_varText (a := (c : Int)) (by omega) (by omega), v_varText (a := (d : Int)) (by omega) (by omega), v_varText (a := (f.length : Int)) (by omega) (by omega), Int.toNat_natCast]
    rw [if_neg (by simp only [List.length_append, List.length_singleton]; omega), if_neg (by simp only [List.length_append, List.length_singleton]; omega), if_neg (by simp only [List.length_append, List.length_singleton]; omega), if_neg (by simp only [List.length_append, List.length_singleton]; omega)]
    rw [v_write (by simp only [List.length_append, List.length_singleton, List.length_nil]; omega), Option.bind_some]
    simp only [List.nil_append]
    rw [v_write (by simp only [List.length_append, List.length_singleton, List.length_cons, List.length_nil]; omega), Option.bind_some]
    simp only
    let t0 : List UInt8 := [UInt8.ofNat a] ++ vEnc b ++ vEnc c ++ vEnc d ++ [UInt8.ofNat e] ++ vEnc f.length
    have ht0 : t0.length ≤ 30 := by simp only [t0, List.length_append, List.length_singleton]; omega
    obtain ⟨s, h1, h2⟩ := loop_all (L := L_impl_TokenText_1) f (fun s g => (s, f, (f.length : Int), g)) (fun s => s) (fun i s => s = t0 ++ (f.take i).flatMap fun t => vEnc t.toNat) (fun i y s hy hi hI => ⟨t0 ++ (f.take (i + 1)).flatMap fun t => vEnc t.toNat, rfl, fun n => by
      have hyl := f7 y (List.mem_of_getElem? hy)
      have hsy := vEnc_l5 (n := y.toNat) (by omega)
      have hci := nums_len (c := f.take i) (fun x hx => by have := f7 x (List.mem_of_mem_take hx); omega)
      rw [List.length_take] at hci
      have hci2 : min i f.length * 5 ≤ 20 * 5 := Nat.mul_le_mul_right _ (by omega)
      subst hI
      rw [e_L_impl_TokenText_1]
      simp only [show ((i : Int) < (f.length : Int)) by omega, decide_true, cond_true, Int.natCast_nonneg, if_true, Int.toNat_natCast, hy, Option.bind_some, v_varText (a := y) (by omega) (by omega)]
      rw [v_write (by simp only [List.length_append]; omega), Option.bind_some, wrap_ok (by omega) (by omega), take_succ' hy]
      simp only [List.flatMap_append, List.flatMap_cons, List.flatMap_nil, List.append_nil, List.append_assoc]⟩) (fun n s _ => by rw [e_L_impl_TokenText_1]; simp) (by rw [maxLen_eq]; omega) t0 (by simp)
    show (L_impl_TokenText_1 fuel (t0, f, (f.length : Int), 0)).bind _ = _
    rw [h2]
    rw [List.take_length] at h1
    have hs : s = tokT a b c d e f := h1
    have hsl : s.length ≤ 200 := by rw [h1, List.length_append]; omega
    have hne : s ≠ [] := by rw [h1]; simp [t0]
    simp only [Option.bind_some, Sum.elim_inl]
    rw [v_string hne, Option.bind_some, (x_Sealed (by omega)).2, hs]; rfl
theorem tok_nat {a : Int} (h : 0 ≤ a) : ∃ n : Nat, a = (n : Int) := ⟨a.toNat, by omega⟩
theorem f_ReadToken {a b c d e : Nat} {f : List Int} (f1 : a ≤ 9) (f2 : b ≤ 1000000000) (f3 : c ≤ 60) (f4 : d ≤ 60) (f5 : e ≤ 5) (f6 : f.length ≤ 20) (f7 : ∀ y ∈ f, 0 ≤ y ∧ y ≤ 60) (hk : T_impl_TokenOk ((a : Int), (b : Int), (c : Int), (d : Int), (e : Int), f) = some true) :
    T_impl_ReadToken (tokT a b c d e f ++ four (sumV (tokT a b c d e f))) = some (((a : Int), (b : Int), (c : Int), (d : Int), (e : Int), f), true) ∧ (tokT a b c d e f).length ≤ 140 := by
  have l2 := vEnc_l5 (n := b) (by omega)
  have l3 := vEnc_l5 (n := c) (by omega)
  have l4 := vEnc_l5 (n := d) (by omega)
  have l6 := vEnc_l5 (n := f.length) (by omega)
  have l7 := nums_len (c := f) (fun t ht => by have := f7 t ht; omega)
  have l8 : f.length * 5 ≤ 20 * 5 := Nat.mul_le_mul_right _ f6
  obtain ⟨t, ht⟩ : ∃ t, t = tokT a b c d e f := ⟨_, rfl⟩
  have htl : t.length ≤ 140 := by rw [ht]; simp only [tokT, List.length_append, List.length_singleton]; omega
  rw [← ht]
  have h4 := four_len (sumV t)
  have ha : t.length ≤ 4294967296 := by omega
  refine ⟨?_, htl⟩
  rw [e_T_impl_ReadToken, (x_Unsealed (by rw [List.length_append]; omega)).2, unS_back (by omega)]
  have hw : Rd t 0 t.length ([UInt8.ofNat a] ++ (vEnc b ++ (vEnc c ++ (vEnc d ++ ([UInt8.ofNat e] ++ (vEnc f.length ++ f.flatMap fun t => vEnc t.toNat)))))) := ⟨Nat.le_refl _, by rw [List.drop_zero, List.drop_length, List.append_nil, ht]; simp only [tokT, List.append_assoc]⟩
  obtain ⟨c1, w1⟩ := Rd.cut (Nat.zero_le _) hw
  obtain ⟨c2, w2⟩ := Rd.cut c1.1 w1
  obtain ⟨c3, w3⟩ := Rd.cut c2.1 w2
  obtain ⟨c4, w4⟩ := Rd.cut c3.1 w3
  obtain ⟨c5, w5⟩ := Rd.cut c4.1 w4
  obtain ⟨c6, w6⟩ := Rd.cut c5.1 w5
  have e1 := o_impl (bad := false) (Nat.zero_le t.length) ha
  rw [F_one (Nat.zero_le _) c1 (by omega)] at e1
  have e2 := n_impl (bad := false) c1.1 ha
  rw [F_num c1.1 c2 (by omega)] at e2
  have e3 := n_impl (bad := false) c2.1 ha
  rw [F_num c2.1 c3 (by omega)] at e3
  have e4 := n_impl (bad := false) c3.1 ha
  rw [F_num c3.1 c4 (by omega)] at e4
  have e5 := o_impl (bad := false) c4.1 ha
  rw [F_one c4.1 c5 (by omega)] at e5
  have e6 := n_impl (bad := false) c5.1 ha
  rw [F_num c5.1 c6 (by omega)] at e6
  have e7 := im_wants (z := (0, 0, 0, 0, 0, [])) (k1 := (a : Int)) (k2 := (b : Int)) (k3 := (c : Int)) (k4 := (d : Int)) (k5 := (e : Int)) (n := f.length) (by omega) f.length 0 _ false [] f t.length false fuel (by simp only [fuel]; omega) (by omega) rfl (NR_fwd ha f _ _ c6.1 w6 (fun y hy => by have := f7 y hy; omega))
  rw [show ((0 : Nat) : Int) = (0 : Int) from rfl] at e1 e7
  rw [List.nil_append] at e7
  simp only [Option.bind_some, Bool.not_true]
  rw [e1]
  simp only [Option.bind_some]
  rw [e2]
  simp only [Option.bind_some]
  rw [e3]
  simp only [Option.bind_some]
  rw [e4]
  simp only [Option.bind_some]
  rw [e5]
  simp only [Option.bind_some]
  rw [e_T___impl_scanner__count, e6]
  simp only [Option.bind_some]
  rw [decide_eq_false (by omega), cond_false]
  try simp only [Option.bind_some]
  rw [e7]
  simp only [Option.bind_some, Sum.elim_inl, e_T___impl_scanner__done, hk, beq_self_eq_true, Bool.not_false, Bool.not_true, cond_true, cond_false]
theorem x_TokenText {a b c d e : Int} {f : List Int} (h : f.length ≤ 1048576) : ∃ (v : Bool) (S : List UInt8), T_spec_TokenOk (a, b, c, d, e, f) = some v ∧ T_impl_TokenOk (a, b, c, d, e, f) = some v ∧ T_spec_TokenText (a, b, c, d, e, f) = some (S, v) ∧ T_impl_TokenText (a, b, c, d, e, f) = some (S, v) ∧ (v = true → T_impl_ReadToken S = some ((a, b, c, d, e, f), true)) ∧ S.length ≤ 144 := by
  obtain ⟨v, h1, h2, h3⟩ := x_TokenOk (a := a) (b := b) (c := c) (d := d) (e := e) h
  cases v with
  | false => exact ⟨false, [], h1, h2, by rw [e_T_spec_TokenText, h1]; rfl, by rw [e_T_impl_TokenText, h2]; rfl, fun h => (by cases h), by simp⟩
  | true =>
    obtain ⟨w1, w2, w3, w4, w5, w6, w7⟩ := h3 rfl
    obtain ⟨a, rfl⟩ := tok_nat (show 0 ≤ a by omega)
    obtain ⟨b, rfl⟩ := tok_nat (show 0 ≤ b by omega)
    obtain ⟨c, rfl⟩ := tok_nat (show 0 ≤ c by omega)
    obtain ⟨d, rfl⟩ := tok_nat (show 0 ≤ d by omega)
    obtain ⟨e, rfl⟩ := tok_nat (show 0 ≤ e by omega)
    have hf : true = true → (a : Int) ≤ 9 ∧ (b : Int) ≤ 1000000000 ∧ (c : Int) ≤ 60 ∧ (d : Int) ≤ 60 ∧ (e : Int) ≤ 5 ∧ f.length ≤ 20 ∧ ∀ y ∈ f, 0 ≤ y ∧ y ≤ 60 := fun _ => ⟨w1.2, w2.2, w3.2, by omega, w5.2, w6, fun y hy => by have := w7 y hy; omega⟩
    obtain ⟨g1, g2⟩ := f_ReadToken (a := a) (b := b) (c := c) (d := d) (e := e) (f := f) (by omega) (by omega) (by omega) (by omega) (by omega) w6 (fun y hy => by have := w7 y hy; omega) h2
    exact ⟨true, _, h1, h2, v_TokenText h1 hf, v_ITokenText h2 hf, fun _ => g1, by rw [List.length_append, four_len]; omega⟩
theorem l_Token {a : List Int} (ha : a.length ≤ 1048576) (d : Int × Int × Int × Int × Int × List Int) {j k l m o : Int} (hl : l ≤ 255) : ∀ (s i n : Nat) (b c : Int) (p : List Int), s < n → (i : Int) + (s : Int) = max (i : Int) (l + 1) → 0 ≤ b → p.length ≤ i → i ≤ 300 → ∃ b' c' p', L_spec_l05Token_1 n ((a, b, c), d, (j, k, l, m, o, p), (i : Int)) = some (.inl ((a, b', c'), d, j, k, l, m, o, p')) ∧ 0 ≤ b' ∧ p'.length ≤ 600
  | s, i, n, b, c, p, hn, hi, hb, hp, hi3 => by
    obtain ⟨n, rfl⟩ : ∃ j, n = j + 1 := ⟨n - 1, by omega⟩
    obtain ⟨d1, d2, d3, d4, d5, d6⟩ := d
    rw [e_L_spec_l05Token_1]
    by_cases hlt : (i : Int) ≤ l
    · obtain ⟨s, rfl⟩ : ∃ j, s = j + 1 := ⟨s - 1, by omega⟩
      obtain ⟨x, b1, c1, h1, h2⟩ := x_Once (c := c) (n := 5) ha hb (by omega)
      have hw : IntKind.i64.wrap ((i : Int) + 1) = ((i + 1 : Nat) : Int) := by rw [wrap_ok (by omega) (by omega)]; omega
      rw [decide_eq_true hlt, cond_true, h1, Option.bind_some]
      cases x with
      | true =>
        simp only [cond_true, List.length_singleton]
        rw [if_pos ⟨by omega, by omega⟩]
        simp only [Option.bind_some, Sum.elim_inl, hw]
        exact l_Token ha (d1, d2, d3, d4, d5, d6) hl s (i + 1) n b1 c1 (p ++ [(i : Int)]) (by omega) (by omega) h2 (by simp; omega) (by omega)
      | false =>
        simp only [cond_false, Option.bind_some, Sum.elim_inl, hw]
        exact l_Token ha (d1, d2, d3, d4, d5, d6) hl s (i + 1) n b1 c1 p (by omega) (by omega) h2 (by omega) (by omega)
    · rw [decide_eq_false hlt, cond_false]
      exact ⟨b, c, p, rfl, hb, by omega⟩
theorem x_Token {a : List Int} {b c : Int} (ha : a.length ≤ 1048576) (hb : 0 ≤ b) : ∃ k1 k2 k3 k4 k5 f b' c', T_spec_l05Token (a, b, c) = some ((k1, k2, k3, k4, k5, f), a, b', c') ∧ 0 ≤ b' ∧ f.length ≤ 600 := by
  obtain ⟨r1, b1, c1, h1, _, _, _, p1⟩ := x_Below (c := c) (n := 3) ha hb (by omega)
  obtain ⟨r2, b2, c2, h2, _, _, _, p2⟩ := x_Below (c := c1) (n := 9) ha p1 (by omega)
  obtain ⟨r3, b3, c3, h3, q3, q3', _, p3⟩ := x_Below (c := c2) (n := 12) ha p2 (by omega)
  have hr3 := q3' (by omega)
  obtain ⟨r4, b4, c4, h4, q4, q4', _, p4⟩ := x_Below (c := c3) (n := r3 + 1) ha p3 (by omega)
  have hr4 := q4' (by omega)
  rw [e_T_spec_l05Token, h1]
  simp only [Option.bind_some, h2, h3, wrap_ok (n := r3 + 1) (by omega) (by omega), h4]
  have fin : ∀ (b5 c5 k5 : Int), 0 ≤ b5 → ∃ b' c' f, L_spec_l05Token_1 fuel ((a, b5, c5), (0, 0, 0, 0, 0, []), (IntKind.i64.wrap (1 + r1), IntKind.i64.wrap (1 + r2), r3, r4, k5, []), 1) = some (.inl ((a, b', c'), (0, 0, 0, 0, 0, []), IntKind.i64.wrap (1 + r1), IntKind.i64.wrap (1 + r2), r3, r4, k5, f)) ∧ 0 ≤ b' ∧ f.length ≤ 600 := fun b5 c5 k5 h5 =>
    l_Token ha (0, 0, 0, 0, 0, []) (by omega) r3.toNat 1 fuel b5 c5 [] (by simp only [fuel]; omega) (by omega) h5 (by simp) (by omega)
  have hmid : ∃ (o : Bool) (b5 c5 : Int), (bif decide (r4 < r3) then (some (Sum.inl ((a, b4, c4), (0, 0, 0, 0, 0, []), (IntKind.i64.wrap (1 + r1), IntKind.i64.wrap (1 + r2), r3, r4, 0, []), true)) : Option (((List Int × Int × Int) × (Int × Int × Int × Int × Int × List Int) × (Int × Int × Int × Int × Int × List Int) × Bool) ⊕ (((List Int × Int × Int) × (Int × Int × Int × Int × Int × List Int) × (Int × Int × Int × Int × Int × List Int)) ⊕ ((Int × Int × Int × Int × Int × List Int) × List Int × Int × Int)))) else (T_spec_l01Once ((a, b4, c4), 6)).bind fun r => some (Sum.inl ((r.snd.fst, r.snd.snd.fst, r.snd.snd.snd), (0, 0, 0, 0, 0, []), (IntKind.i64.wrap (1 + r1), IntKind.i64.wrap (1 + r2), r3, r4, 0, []), r.fst))) = some (Sum.inl ((a, b5, c5), (0, 0, 0, 0, 0, []), (IntKind.i64.wrap (1 + r1), IntKind.i64.wrap (1 + r2), r3, r4, 0, []), o)) ∧ 0 ≤ b5 := by
    cases decide (r4 < r3) with
    | true => exact ⟨true, b4, c4, rfl, p4⟩
    | false =>
      obtain ⟨o, b5, c5, h5, p5⟩ := x_Once (c := c4) (n := 6) ha p4 (by omega)
      exact ⟨o, b5, c5, by rw [cond_false, h5]; rfl, p5⟩
  obtain ⟨o, b5, c5, hm, p5⟩ := hmid
  rw [hm]
  simp only [Option.bind_some, Sum.elim_inl]
  cases o with
  | true =>
    obtain ⟨r6, b6, c6, h6, _, _, _, p6⟩ := x_Below (c := c5) (n := 3) ha p5 (by omega)
    obtain ⟨b7, c7, f, g1, g2, g3⟩ := fin b6 c6 (IntKind.i64.wrap (1 + r6)) p6
    simp only [cond_true, h6, Option.bind_some, Sum.elim_inl, g1]
    exact ⟨_, _, _, _, _, f, b7, c7, rfl, g2, g3⟩
  | false =>
    obtain ⟨b7, c7, f, g1, g2, g3⟩ := fin b5 c5 0 p5
    simp only [cond_false, Option.bind_some, Sum.elim_inl, g1]
    exact ⟨_, _, _, _, _, f, b7, c7, rfl, g2, g3⟩
theorem x_AnyToken {a : List Int} {b c : Int} (ha : a.length ≤ 1048576) (hb : 0 ≤ b) : ∃ k1 k2 k3 k4 k5 f b' c', T_spec_l05AnyToken (a, b, c) = some ((k1, k2, k3, k4, k5, f), a, b', c') ∧ 0 ≤ b' ∧ f.length ≤ 601 := by
  obtain ⟨k1, k2, k3, k4, k5, f, b1, c1, h1, p1, hf⟩ := x_Token (c := c) ha hb
  obtain ⟨r, b2, c2, h2, _, _, _, p2⟩ := x_Below (c := c1) (n := 24) ha p1 (by omega)
  rw [e_T_spec_l05AnyToken, h1, Option.bind_some]
  simp only
  rw [h2, Option.bind_some]
  simp only
  cases r == 0 with
  | true =>
    obtain ⟨y, b3, c3, m1, _, m3⟩ := x_PickInt (c := c2) (l := [Int.ofNat 0, Int.ofNat 9, Int.ofNat 10]) ha p2 (by decide) (by decide)
    rw [cond_true, m1]
    exact ⟨_, _, _, _, _, f, b3, c3, rfl, m3, by omega⟩
  | false =>
  rw [cond_false]
  cases r == 1 with
  | true =>
    obtain ⟨y, b3, c3, m1, _, m3⟩ := x_PickInt (c := c2) (l := [Int.ofNat 0, Int.negSucc 0, Int.ofNat 1000000000, Int.ofNat 1000000001]) ha p2 (by decide) (by decide)
    rw [cond_true, m1]
    exact ⟨_, _, _, _, _, f, b3, c3, rfl, m3, by omega⟩
  | false =>
  rw [cond_false]
  cases r == 2 with
  | true =>
    obtain ⟨y, b3, c3, m1, _, m3⟩ := x_PickInt (c := c2) (l := [Int.negSucc 0, Int.ofNat 60, Int.ofNat 61]) ha p2 (by decide) (by decide)
    rw [cond_true, m1]
    exact ⟨_, _, _, _, _, f, b3, c3, rfl, m3, by omega⟩
  | false =>
  rw [cond_false]
  cases r == 3 with
  | true =>
    obtain ⟨y, b3, c3, m1, _, m3⟩ := x_PickInt (c := c2) (l := [-1, k3, IntKind.i64.wrap (k3 + 1)]) ha p2 (by simp) (by simp)
    rw [cond_true, m1]
    exact ⟨_, _, _, _, _, f, b3, c3, rfl, m3, by omega⟩
  | false =>
  rw [cond_false]
  cases r == 4 with
  | true =>
    obtain ⟨y, b3, c3, m1, _, m3⟩ := x_PickInt (c := c2) (l := [Int.negSucc 0, Int.ofNat 5, Int.ofNat 6]) ha p2 (by decide) (by decide)
    rw [cond_true, m1]
    exact ⟨_, _, _, _, _, f, b3, c3, rfl, m3, by omega⟩
  | false =>
  rw [cond_false]
  cases r == 5 with
  | true =>
    obtain ⟨y, b3, c3, m1, _, m3⟩ := x_PickInt (c := c2) (l := [0, 1, k3, IntKind.i64.wrap (k3 + 1)]) ha p2 (by simp) (by simp)
    rw [cond_true, m1, Option.bind_some]
    simp only [List.length_singleton]
    rw [if_pos ⟨by omega, by omega⟩]
    exact ⟨_, _, _, _, _, f ++ [y], b3, c3, rfl, m3, by simp; omega⟩
  | false =>
  rw [cond_false]
  exact ⟨_, _, _, _, _, f, b2, c2, rfl, p2, by omega⟩
theorem x_sameInts {a : List Int} (ha : a.length ≤ 1048576) : T_laws_sameInts (a, a) = some true := by
  obtain ⟨s, h1, h2⟩ := loop_all (L := L_laws_sameInts_1) a (fun (_ : Unit) i => (a, a, i)) (fun _ => ()) (fun _ _ => True) (fun i y s hy hi hI => ⟨(), trivial, fun n => by
    rw [e_L_laws_sameInts_1]
    simp only [show ((i : Int) < (a.length : Int)) by omega, decide_true, cond_true, Int.natCast_nonneg, if_true, Int.toNat_natCast, hy, Option.bind_some, beq_self_eq_true, Bool.not_true, cond_false]
    rw [wrap_ok (by omega) (by omega)]⟩) (fun n s _ => by rw [e_L_laws_sameInts_1]; simp) (by rw [maxLen_eq]; omega) () trivial
  rw [e_T_laws_sameInts, beq_self_eq_true, Bool.not_true, cond_false, h2]; rfl
theorem x_DrawReadToken {a : List Int} (ha : a.length ≤ 1048576) : ∃ s, T_spec_DrawReadToken a = some s ∧ s.length ≤ 300 := by
  obtain ⟨h, h1⟩ := x_New ha
  obtain ⟨k1, k2, k3, k4, k5, f, b1, c1, h2, p1, hf⟩ := x_AnyToken (c := h) ha (Int.le_refl 0)
  obtain ⟨v, S, _, _, s1, _, _, s3⟩ := x_TokenText (a := k1) (b := k2) (c := k3) (d := k4) (e := k5) (f := f) (by omega)
  obtain ⟨o, b2, c2, h3, p2⟩ := x_Once (c := c1) (n := 3) ha p1 (by omega)
  rw [e_T_spec_DrawReadToken, h1]
  simp only [Option.bind_some]
  rw [h2]
  simp only [Option.bind_some]
  rw [s1]
  simp only [Option.bind_some]
  rw [h3]
  simp only [Option.bind_some]
  cases o with
  | true =>
    have hu := (x_Unsealed (a := S) (by omega)).1
    have hul : (unS S).1.length ≤ 144 := by
      unfold unS
      split
      · simp only [List.length_take]; omega
      · simp
    rw [cond_true, hu]
    simp only [Option.bind_some]
    cases (unS S).2 with
    | true =>
      obtain ⟨t, b3, c3, m1, m2, m3⟩ := x_Spoilt (c := c2) (d := (unS S).1) ha p2 (by omega)
      rw [cond_true, m1]
      simp only [Option.bind_some]
      rw [(x_Sealed (by omega)).1]
      exact ⟨_, rfl, by rw [List.length_append, four_len]; omega⟩
    | false => exact ⟨S, rfl, by omega⟩
  | false =>
    obtain ⟨t, b3, c3, m1, m2, m3⟩ := x_Spoilt (c := c2) (d := S) ha p2 (by omega)
    rw [cond_false, m1]
    exact ⟨t, rfl, by omega⟩
theorem law_FnTokens (a : List Int) (h : (ET.sl false (.int .u8)).ok a) : T_laws_FnTokens a = some true := by
  rw [e_T_laws_FnTokens, e_T_laws_big]
  by_cases h1 : 1048576 < (a.length : Int)
  · simp [h1]
  · have ha : a.length ≤ 1048576 := by omega
    obtain ⟨h, n1⟩ := x_New ha
    obtain ⟨k1, k2, k3, k4, k5, f, b1, c1, n2, p1, hf⟩ := x_AnyToken (c := h) ha (Int.le_refl 0)
    obtain ⟨v, S, t1, t2, t3, t4, t5, t6⟩ := x_TokenText (a := k1) (b := k2) (c := k3) (d := k4) (e := k5) (f := f) (by omega)
    have hd : T_spec_DrawTokenText a = some (k1, k2, k3, k4, k5, f) := by
      rw [e_T_spec_DrawTokenText, n1]
      simp only [Option.bind_some]
      rw [n2]; rfl
    obtain ⟨⟨⟨y1, y2, y3, y4, y5, y6⟩, y7⟩, r1, r2, r3, r4⟩ := r_ReadToken (x := S) (by omega)
    obtain ⟨x, d1, d2⟩ := x_DrawReadToken ha
    obtain ⟨⟨⟨z1, z2, z3, z4, z5, z6⟩, z7⟩, q1, q2, q3, q4⟩ := r_ReadToken (x := x) (by omega)
    have hz : z6.length ≤ 50 := q3
    obtain ⟨v', S', u1, u2, u3, u4, u5, u6⟩ := x_TokenText (a := z1) (b := z2) (c := z3) (d := z4) (e := z5) (f := z6) (by omega)
    have fin : (bif z7 == z7 then bif !z7 then some true else some (S' == x) else some false) = some true := by
      rw [beq_self_eq_true, cond_true]
      cases z7 with
      | false => rfl
      | true =>
        have := q4 rfl
        rw [u3] at this
        simp only [Option.some.injEq, Prod.mk.injEq] at this
        rw [this.1, beq_self_eq_true]; rfl
    rw [decide_eq_false h1]
    simp only [Option.bind_some, cond_false, hd, t4, r2, t1, t2]
    cases v with
    | false =>
      simp only [beq_self_eq_true, Bool.not_true, cond_false, Option.bind_some, Sum.elim_inl, d1, q2, q1, u4]
      simpa only [beq_self_eq_true, cond_true] using fin
    | true =>
      have t5' := t5 rfl
      rw [r2] at t5'
      simp only [Option.some.injEq, Prod.mk.injEq] at t5'
      obtain ⟨⟨rfl, rfl, rfl, rfl, rfl, rfl⟩, rfl⟩ := t5'
      simp only [Bool.not_true, beq_self_eq_true, cond_false, cond_true, Option.bind_some, Sum.elim_inl, x_sameInts (show y6.length ≤ 1048576 by omega), d1, q2, q1, u4]
      simpa only [beq_self_eq_true, cond_true] using fin
end Xs
end Go.Proofs.Ytlblgfhdndpmfaa
