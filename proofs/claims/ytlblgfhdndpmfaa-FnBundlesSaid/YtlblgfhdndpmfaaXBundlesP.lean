/- What the reference's function answers, and the program's: the same. -/
import Derived.Test.YtlblgfhdndpmfaaT9
import Derived.Test.YtlblgfhdndpmfaaXBundlesE
namespace Go.Proofs.Ytlblgfhdndpmfaa
open Go Vm
set_option linter.unusedVariables false
set_option linter.unusedSimpArgs false
namespace Xs
theorem small_len {s : List UInt8} (h : ET.str.small s) : s.length ≤ maxLen := Nat.le_trans h (by decide)
theorem smallL_len {e : ET} {o : Bool} {s : List e.den} (h : (ET.sl o e).small s) : s.length ≤ maxLen := Nat.le_trans h.1 (by decide)
theorem x_inRange (a b c : Int) : T_spec_l01In (a, b, c) = some (decide (b ≤ a ∧ a ≤ c)) ∧ T_impl_inRange (a, b, c) = some (decide (b ≤ a ∧ a ≤ c)) := by
  rw [e_T_spec_l01In, e_T_impl_inRange]
  by_cases h : b ≤ a <;> simp [h]
theorem x_isLevel (a : Int) : T_impl_isLevel a = some (a == 1 || a == 2) := by
  rw [e_T_impl_isLevel]; cases a == 1 <;> rfl
/-- A number's bytes: seven bits each, the low ones first. -/
def vEnc (n : Nat) : List UInt8 := if 127 < n then UInt8.ofNat (n % 128 + 128) :: vEnc (n / 128) else [UInt8.ofNat n]
theorem vEnc_hi {n : Nat} (h : 127 < n) : vEnc n = UInt8.ofNat (n % 128 + 128) :: vEnc (n / 128) := by rw [vEnc, if_pos h]
theorem vEnc_lo {n : Nat} (h : n ≤ 127) : vEnc n = [UInt8.ofNat n] := by rw [vEnc, if_neg (by omega)]
theorem u8w {n : Int} (h0 : 0 ≤ n) (h1 : n < 256) : IntKind.u8.wrap n = n := by
  rw [IntKind.wrap_u8]; omega
theorem vEnc_len : ∀ n : Nat, (vEnc n).length ≤ n + 1 := by
  intro n
  induction n using Nat.strongRecOn with
  | _ n ih =>
    by_cases h : 127 < n
    · rw [vEnc_hi h]
      have := ih (n / 128) (by omega)
      simp only [List.length_cons]; omega
    · rw [vEnc_lo (by omega)]; simp
theorem l_var : ∀ (k n : Nat) (b : List Int), k < n → b.length + k ≤ 4294967296 → ∃ (k' : Nat) (b' : List Int), L_spec_l01Var_1 n ((k : Int), b) = some (.inl ((k' : Int), b')) ∧ k' ≤ 127 ∧ b'.length ≤ b.length + k ∧ b'.map (fun x => UInt8.ofNat x.toNat) ++ [UInt8.ofNat k'] = b.map (fun x => UInt8.ofNat x.toNat) ++ vEnc k := by
  intro k
  induction k using Nat.strongRecOn with
  | _ k ih =>
    intro n b hn hb
    obtain ⟨m, rfl⟩ : ∃ m, n = m + 1 := ⟨n - 1, by omega⟩
    rw [e_L_spec_l01Var_1]
    by_cases h : 127 < k
    · have h1 : (127 : Int) < (k : Int) := by omega
      have e1 : IntKind.i64.wrap ((k : Int).tmod 128 + 128) = ((k % 128 + 128 : Nat) : Int) := by
        rw [Int.tmod_eq_emod_of_nonneg (by omega), wrap_ok (by omega) (by omega)]; omega
      have e2 : IntKind.i64.wrap ((k : Int).tdiv 128) = ((k / 128 : Nat) : Int) := by
        rw [Int.tdiv_eq_ediv_of_nonneg (by omega), wrap_ok (by omega) (by omega)]; omega
      simp only [h1, decide_true, cond_true, e1, e2, List.length_singleton]
      rw [if_pos (by omega), u8w (by omega) (by omega)]
      obtain ⟨k', b', h2, h3, h4, h5⟩ := ih (k / 128) (by omega) m (b.append [((k % 128 + 128 : Nat) : Int)]) (by omega) (by simp; omega)
      refine ⟨k', b', h2, h3, by simp at h4; omega, ?_⟩
      rw [h5, vEnc_hi h]
      simp only [List.append_eq, List.map_append, List.map_cons, List.map_nil, Int.toNat_natCast, List.append_assoc, List.cons_append, List.nil_append]
    · have h1 : ¬ (127 : Int) < (k : Int) := by omega
      simp only [h1, decide_false, cond_false]
      exact ⟨k, b, rfl, by omega, by omega, by rw [vEnc_lo (by omega)]⟩
theorem v_l01Var {a : Int} (h0 : 0 ≤ a) (h1 : a ≤ 2147483648) : T_spec_l01Var a = some (vEnc a.toNat) := by
  obtain ⟨k, rfl⟩ : ∃ k : Nat, a = (k : Int) := ⟨a.toNat, by omega⟩
  rw [e_T_spec_l01Var]
  obtain ⟨k', b', h2, h3, h4, h5⟩ := l_var k fuel [] (by simp only [fuel]; omega) (by simp; omega)
  rw [h2]
  simp only [Option.bind_some, Sum.elim_inl]
  simp at h4
  rw [if_pos (by simp; omega), u8w (by omega) (by omega)]
  simp only [List.map_nil, List.nil_append] at h5
  simp only [Option.some.injEq, Int.toNat_natCast]
  rw [← h5]
  simp
/-- A number off the front of bytes. -/
def rvS : Nat → Nat → Nat → Nat → List UInt8 → Option (Nat × Nat)
  | 0, _, _, _, _ => none
  | _ + 1, _, _, _, [] => none
  | k + 1, i, acc, m, c :: t => if c.toNat < 128 then (if (c.toNat = 0 ∧ 0 < i) ∨ 1000000000 < acc + c.toNat * m then none else some (acc + c.toNat * m, i + 1))
    else rvS k (i + 1) (acc + (c.toNat - 128) * m) (m * 128) t
/-- How it is told: the number, where it ends, whether it is right. -/
def outV (b : Nat) : Option (Nat × Nat) → Int × Int × Bool
  | none => (0, 0, false)
  | some (v, n) => ((v : Int), ((b + n : Nat) : Int), true)
theorem getD_at {a : List UInt8} {i : Nat} (h : i < a.length) : a.getD i 0 = a[i] := by simp [List.getD_eq_getElem?_getD, h]
theorem u8lt (c : UInt8) : c.toNat < 256 := c.toNat_lt
theorem l_implVar : ∀ (k e acc m b j : Nat) (a : List UInt8), k + e = 5 → m = 128 ^ e → acc < m → b ≤ a.length → a.length ≤ 4294967296 → ∃ q, L_impl_ReadVar_1 (k + 1 + j) (a, (b : Int), (acc : Int), (m : Int), (e : Int)) = some q ∧ Sum.elim (fun _ => ((0 : Int), (0 : Int), false)) (fun v => v) q = outV b (rvS k e acc m (a.drop (b + e))) := by
  intro k
  induction k with
  | zero =>
    intro e acc m b j a hk hm hacc hb ha
    have he : e = 5 := by omega
    subst he
    rw [show 0 + 1 + j = j + 1 by omega, e_L_impl_ReadVar_1]
    exact ⟨.inl (), rfl, rfl⟩
  | succ k ih =>
    intro e acc m b j a hk hm hacc hb ha
    have he : e ≤ 4 := by omega
    have hmB : m ≤ 268435456 := by
      rw [hm]; exact Nat.le_trans (Nat.pow_le_pow_right (by decide) he) (by decide)
    rw [show k + 1 + 1 + j = (k + 1 + j) + 1 by omega, e_L_impl_ReadVar_1]
    have e1 : ((e : Int) < 5) := by omega
    have w1 : IntKind.i64.wrap ((b : Int) + (e : Int)) = ((b + e : Nat) : Int) := by rw [wrap_ok (by omega) (by omega)]; omega
    simp only [e1, decide_true, cond_true, w1, Option.bind_some, Sum.elim_inl]
    by_cases hlt : b + e < a.length
    · have h2 : ((b + e : Nat) : Int) < (a.length : Int) := by omega
      have hd : a.drop (b + e) = a[b + e] :: a.drop (b + e + 1) := by rw [List.drop_eq_getElem_cons hlt]
      have hc := u8lt a[b + e]
      rw [hd]
      generalize hcc : a[b + e] = c at *
      have w2 : IntKind.i64.wrap (c.toNat : Int) = (c.toNat : Int) := wrap_ok (by omega) (by omega)
      simp only [h2, decide_true, cond_true, Int.natCast_nonneg, if_true, Int.toNat_natCast, getD_at hlt, hcc, w2]
      by_cases hs : c.toNat < 128
      · have hp : c.toNat * m < 128 * m := by
          have := Nat.mul_lt_mul_of_pos_right hs (show 0 < m by rw [hm]; exact Nat.pow_pos (by decide))
          exact this
        have e2 : ¬ (128 : Int) ≤ (c.toNat : Int) := by omega
        have w3 : IntKind.i64.wrap ((acc : Int) + IntKind.i64.wrap ((c.toNat : Int).tmod 128 * (m : Int))) = ((acc + c.toNat * m : Nat) : Int) := by
          rw [Int.tmod_eq_emod_of_nonneg (by omega), Int.emod_eq_of_lt (by omega) (by omega), wrap_ok (n := (c.toNat : Int) * (m : Int)) (by omega) (by omega), wrap_ok (by omega) (by omega)]; omega
        have w4 : IntKind.i64.wrap (IntKind.i64.wrap ((b : Int) + (e : Int)) + 1) = ((b + (e + 1) : Nat) : Int) := by
          rw [w1, wrap_ok (by omega) (by omega)]; omega
        rw [w1] at w4
        have e3 : ((c.toNat : Int) == 0) = decide (c.toNat = 0) := by
          by_cases h : c.toNat = 0 <;> simp [h]
        have e4 : (decide ((0 : Int) < (e : Int))) = decide (0 < e) := by
          by_cases h : 0 < e <;> simp [h]
        have e5 : (decide ((1000000000 : Int) < ((acc + c.toNat * m : Nat) : Int))) = decide (1000000000 < acc + c.toNat * m) := by
          by_cases h : 1000000000 < acc + c.toNat * m
          · rw [decide_eq_true h, decide_eq_true (by omega)]
          · rw [decide_eq_false h, decide_eq_false (by omega)]
        simp only [e2, decide_false, cond_false, w3, e3, e4, e5, bif_bind, Option.bind_some, Sum.elim_inl, w1, w4, rvS, hs, if_true]
        by_cases hz : c.toNat = 0 <;> by_cases he0 : 0 < e <;> by_cases hbig : 1000000000 < acc + c.toNat * m <;> simp only [hz, he0, hbig, decide_true, decide_false, cond_true, cond_false, and_true, and_false, true_and, false_and, true_or, or_true, false_or, or_false, if_true, if_false] <;>
          first
          | exact ⟨_, rfl, rfl⟩
          | (simp only [hz] at hbig; simp only [hbig, decide_true, decide_false, cond_true, cond_false, if_true, if_false]; exact ⟨_, rfl, rfl⟩)
      · have hp : (c.toNat - 128) * m ≤ 127 * m := Nat.mul_le_mul_right _ (by omega)
        have e2 : (128 : Int) ≤ (c.toNat : Int) := by omega
        have hcm : ((c.toNat : Int).tmod 128 * (m : Int)) = (((c.toNat - 128) * m : Nat) : Int) := by
          rw [Int.tmod_eq_emod_of_nonneg (by omega), show (c.toNat : Int) % 128 = ((c.toNat - 128 : Nat) : Int) by omega, Int.natCast_mul]
        have w3 : IntKind.i64.wrap ((acc : Int) + IntKind.i64.wrap ((c.toNat : Int).tmod 128 * (m : Int))) = ((acc + (c.toNat - 128) * m : Nat) : Int) := by
          rw [hcm, wrap_ok (n := (((c.toNat - 128) * m : Nat) : Int)) (by omega) (by omega), wrap_ok (by omega) (by omega)]; omega
        have w4 : IntKind.i64.wrap ((m : Int) * 128) = ((m * 128 : Nat) : Int) := by rw [wrap_ok (by omega) (by omega)]; omega
        have w5 : IntKind.i64.wrap ((e : Int) + 1) = ((e + 1 : Nat) : Int) := by rw [wrap_ok (by omega) (by omega)]; omega
        simp only [e2, decide_true, cond_true, w3, w4, w5, rvS, hs, if_false]
        exact ih (e + 1) (acc + (c.toNat - 128) * m) (m * 128) b j a (by omega) (by rw [hm, Nat.pow_succ]) (by omega) hb ha
    · have h2 : ¬ ((b + e : Nat) : Int) < (a.length : Int) := by omega
      simp only [h2, decide_false, cond_false]
      rw [List.drop_eq_nil_of_le (by omega)]
      exact ⟨.inl (), rfl, rfl⟩
theorem v_implVar {a : List UInt8} {b : Nat} (hb : b ≤ a.length) (ha : a.length ≤ 4294967296) : T_impl_ReadVar (a, (b : Int)) = some (outV b (rvS 5 0 0 1 (a.drop b))) := by
  rw [e_T_impl_ReadVar]
  have h1 : ¬ (b : Int) < 0 := by omega
  have h2 : ¬ (a.length : Int) < (b : Int) := by omega
  obtain ⟨q, h3, h4⟩ := l_implVar 5 0 0 1 b 18446744073709551610 a rfl rfl (by decide) hb ha
  simp only [Nat.add_zero, Int.natCast_zero, Int.natCast_one] at h3 h4
  have h5 : L_impl_ReadVar_1 fuel (a, (b : Int), 0, 1, 0) = some q := h3
  simp only [h1, h2, decide_false, cond_false, Option.bind_some, Sum.elim_inl, h5]
  rw [← h4]
  cases q <;> rfl
theorem rvS_bound : ∀ (k i acc m : Nat) (t : List UInt8) (v n : Nat), rvS k i acc m t = some (v, n) → v ≤ 1000000000 ∧ i < n ∧ n ≤ i + t.length
  | 0, _, _, _, _, _, _, h => by simp [rvS] at h
  | _ + 1, _, _, _, [], _, _, h => by simp [rvS] at h
  | k + 1, i, acc, m, c :: t, v, n, h => by
    simp only [rvS] at h
    split at h
    · split at h
      · cases h
      · cases h; simp; omega
    · have := rvS_bound k _ _ _ t v n h
      simp; omega
/-- What bytes tell, if they are right: the value of the bytes ahead of an end. -/
def vVal : List UInt8 → Nat
  | [] => 0
  | c :: t => c.toNat % 128 + 128 * vVal t
/-- Bytes that are a number's, but for the last one's being 0. -/
def vFit : List UInt8 → Prop
  | [] => False
  | [c] => c.toNat < 128
  | c :: t => 128 ≤ c.toNat ∧ vFit t
theorem vFit_cons {c : UInt8} {t : List UInt8} (h : t ≠ []) : vFit (c :: t) ↔ 128 ≤ c.toNat ∧ vFit t := by
  cases t with
  | nil => exact absurd rfl h
  | cons x l => exact Iff.rfl
theorem vEnc_ne (n : Nat) : vEnc n ≠ [] := by
  by_cases h : 127 < n
  · rw [vEnc_hi h]; simp
  · rw [vEnc_lo (by omega)]; simp
theorem byte_of {c : UInt8} {n : Nat} (h : c.toNat = n) : UInt8.ofNat n = c := by rw [← h]; simp
theorem vEnc_last : ∀ (n : Nat), ∃ l c, vEnc n = l ++ [c] ∧ (l ≠ [] → c.toNat ≠ 0) := by
  intro n
  induction n using Nat.strongRecOn with
  | _ n ih =>
    by_cases h : 127 < n
    · obtain ⟨l, c, h1, h2⟩ := ih (n / 128) (by omega)
      rw [vEnc_hi h]
      refine ⟨UInt8.ofNat (n % 128 + 128) :: l, c, by rw [h1]; rfl, fun _ => ?_⟩
      by_cases hl : l = []
      · subst hl
        by_cases h3 : 127 < n / 128
        · rw [vEnc_hi h3] at h1
          have := vEnc_ne (n / 128 / 128)
          simp at h1
          exact absurd h1.2 this
        · rw [vEnc_lo (by omega)] at h1
          simp at h1
          rw [← h1]
          simp; omega
      · exact h2 hl
    · rw [vEnc_lo (by omega)]
      exact ⟨[], _, rfl, fun h => absurd rfl h⟩
/-- Right bytes are those that their value's are. -/
theorem vEnc_val : ∀ (t : List UInt8), vFit t → (t.length = 1 ∨ t.getLast?.map UInt8.toNat ≠ some 0) → vEnc (vVal t) = t ∧ (1 < t.length → 0 < vVal t)
  | [], h, _ => h.elim
  | [c], h, _ => by
    have h' : c.toNat < 128 := h
    simp only [vVal, Nat.mul_zero, Nat.add_zero]
    rw [Nat.mod_eq_of_lt h', vEnc_lo (by omega)]
    exact ⟨by rw [byte_of rfl], fun h => by simp at h⟩
  | c :: d :: t, h, hl => by
    obtain ⟨h1, h2⟩ := (vFit_cons (by simp)).1 h
    have hl' : (d :: t).getLast?.map UInt8.toNat ≠ some 0 := by
      rcases hl with hl | hl
      · simp at hl
      · simpa using hl
    obtain ⟨h3, h4⟩ := vEnc_val (d :: t) h2 (.inr hl')
    have hp : 0 < vVal (d :: t) := by
      cases t with
      | nil =>
        simp at hl'
        have h5 : d.toNat < 128 := h2
        simp only [vVal]; omega
      | cons x l => exact h4 (by simp)
    have hc := u8lt c
    simp only [vVal] at hp ⊢
    rw [vEnc_hi (by omega)]
    refine ⟨?_, fun _ => by omega⟩
    rw [show (c.toNat % 128 + 128 * (d.toNat % 128 + 128 * vVal t)) / 128 = d.toNat % 128 + 128 * vVal t by omega]
    rw [show vEnc (d.toNat % 128 + 128 * vVal t) = d :: t from h3, byte_of (c := c) (by omega)]
theorem vEnc_fit : ∀ n : Nat, vFit (vEnc n) ∧ vVal (vEnc n) = n := by
  intro n
  induction n using Nat.strongRecOn with
  | _ n ih =>
    by_cases h : 127 < n
    · obtain ⟨h1, h2⟩ := ih (n / 128) (by omega)
      rw [vEnc_hi h]
      have hb : (UInt8.ofNat (n % 128 + 128)).toNat = n % 128 + 128 := by simp; omega
      refine ⟨(vFit_cons (vEnc_ne _)).2 ⟨by omega, h1⟩, ?_⟩
      simp only [vVal, h2, hb]; omega
    · rw [vEnc_lo (by omega)]
      have hb : (UInt8.ofNat n).toNat = n := by simp; omega
      refine ⟨by simp only [vFit, hb]; omega, ?_⟩
      simp only [vVal, hb]; omega
theorem vVal_app : ∀ (p : List UInt8) (c : UInt8), vVal (p ++ [c]) = vVal p + c.toNat % 128 * 128 ^ p.length
  | [], c => by simp [vVal]
  | x :: p, c => by
    simp only [List.cons_append, vVal, vVal_app p c, List.length_cons, Nat.pow_succ]
    rw [Nat.mul_add, Nat.add_assoc, Nat.mul_comm (128 ^ p.length) 128, ← Nat.mul_assoc, ← Nat.mul_assoc, Nat.mul_comm (c.toNat % 128) 128]
theorem vFit_app : ∀ (p : List UInt8) (c : UInt8), (∀ x ∈ p, 128 ≤ x.toNat) → c.toNat < 128 → vFit (p ++ [c])
  | [], c, _, h => h
  | x :: p, c, hp, h => by
    rw [List.cons_append]
    exact (vFit_cons (by simp)).2 ⟨hp x (by simp), vFit_app p c (fun y hy => hp y (by simp [hy])) h⟩
theorem v_canon {p : List UInt8} {c : UInt8} (hp : ∀ x ∈ p, 128 ≤ x.toNat) (hc : c.toNat < 128) : (vEnc (vVal (p ++ [c])) == p ++ [c]) = !decide (c.toNat = 0 ∧ 0 < p.length) := by
  by_cases h : c.toNat = 0 ∧ 0 < p.length
  · rw [decide_eq_true h]
    obtain ⟨l, d, h1, h2⟩ := vEnc_last (vVal (p ++ [c]))
    rw [Bool.not_true, beq_eq_false_iff_ne]
    intro he
    rw [h1] at he
    have h3 := List.append_inj' he rfl
    have h4 : d = c := by simpa using h3.2
    subst h4
    exact h2 (fun hl => by rw [h3.1] at hl; subst hl; simp at h) h.1
  · rw [decide_eq_false h]
    have := (vEnc_val (p ++ [c]) (vFit_app p c hp hc) (by
      by_cases hl : p = []
      · subst hl; exact .inl rfl
      · refine .inr ?_
        have : 0 < p.length := by cases p with | nil => exact absurd rfl hl | cons => simp
        simp; omega)).1
    rw [this]; simp
theorem l_specVar : ∀ (k e acc m b j : Nat) (a p : List UInt8), k + e = 5 → m = 128 ^ e → p = (a.drop b).take e → p.length = e → (∀ x ∈ p, 128 ≤ x.toNat) → acc = vVal p → acc < m → b ≤ a.length → a.length ≤ 4294967296 → ∃ q, L_spec_ReadVar_1 (k + 1 + j) (a, (b : Int), (acc : Int), (m : Int), ((b + e : Nat) : Int)) = some q ∧ Sum.elim (fun _ => ((0 : Int), (0 : Int), false)) (fun v => v) q = outV b (rvS k e acc m (a.drop (b + e))) := by
  intro k
  induction k with
  | zero =>
    intro e acc m b j a p hk hm hp hpl hp8 hv hacc hb ha
    have he : e = 5 := by omega
    subst he
    rw [show 0 + 1 + j = j + 1 by omega, e_L_spec_ReadVar_1]
    have w1 : IntKind.i64.wrap ((b : Int) + 5) = ((b + 5 : Nat) : Int) := by rw [wrap_ok (by omega) (by omega)]; omega
    simp only [w1, bif_bind, Option.bind_some, Sum.elim_inl, show ¬ ((b + 5 : Nat) : Int) < ((b + 5 : Nat) : Int) by omega, decide_false, cond_false]
    cases decide (((b + 5 : Nat) : Int) < (a.length : Int)) <;> exact ⟨_, rfl, rfl⟩
  | succ k ih =>
    intro e acc m b j a p hk hm hp hpl hp8 hv hacc hb ha
    have he : e ≤ 4 := by omega
    have hmB : m ≤ 268435456 := by
      rw [hm]; exact Nat.le_trans (Nat.pow_le_pow_right (by decide) he) (by decide)
    rw [show k + 1 + 1 + j = (k + 1 + j) + 1 by omega, e_L_spec_ReadVar_1]
    have w1 : IntKind.i64.wrap ((b : Int) + 5) = ((b + 5 : Nat) : Int) := by rw [wrap_ok (by omega) (by omega)]; omega
    have e1 : ((b + e : Nat) : Int) < ((b + 5 : Nat) : Int) := by omega
    by_cases hlt : b + e < a.length
    · have h2 : ((b + e : Nat) : Int) < (a.length : Int) := by omega
      have hd : a.drop (b + e) = a[b + e] :: a.drop (b + e + 1) := by rw [List.drop_eq_getElem_cons hlt]
      have hc := u8lt a[b + e]
      have hsub : (a.drop b).take (e + 1) = p ++ [a[b + e]] := by
        rw [List.take_add_one, ← hp, List.getElem?_drop, List.getElem?_eq_getElem hlt]; rfl
      rw [hd]
      generalize hcc : a[b + e] = c at *
      have w2 : IntKind.i64.wrap (c.toNat : Int) = (c.toNat : Int) := wrap_ok (by omega) (by omega)
      have w4 : IntKind.i64.wrap (((b + e : Nat) : Int) + 1) = ((b + (e + 1) : Nat) : Int) := by
        rw [wrap_ok (by omega) (by omega)]; omega
      simp only [h2, w1, e1, decide_true, cond_true, Option.bind_some, Sum.elim_inl, Int.natCast_nonneg, if_true, Int.toNat_natCast, getD_at hlt, hcc, w2, w4]
      by_cases hs : c.toNat < 128
      · have hp2 : c.toNat * m < 128 * m := Nat.mul_lt_mul_of_pos_right hs (show 0 < m by rw [hm]; exact Nat.pow_pos (by decide))
        have e2 : (c.toNat : Int) < 128 := by omega
        have w3 : IntKind.i64.wrap ((acc : Int) + IntKind.i64.wrap ((c.toNat : Int).tmod 128 * (m : Int))) = ((acc + c.toNat * m : Nat) : Int) := by
          rw [Int.tmod_eq_emod_of_nonneg (by omega), Int.emod_eq_of_lt (by omega) (by omega), wrap_ok (n := (c.toNat : Int) * (m : Int)) (by omega) (by omega), wrap_ok (by omega) (by omega)]; omega
        have hval : vVal (p ++ [c]) = acc + c.toNat * m := by
          rw [vVal_app, Nat.mod_eq_of_lt hs, hpl, ← hm, hv]
        simp only [e2, decide_true, cond_true, w3, rvS, hs, if_true]
        by_cases hbig : 1000000000 < acc + c.toNat * m
        · have e5 : (1000000000 : Int) < ((acc + c.toNat * m : Nat) : Int) := by omega
          simp only [e5, hbig, decide_true, cond_true, Option.bind_some, Sum.elim_inl, or_true, if_true]
          exact ⟨_, rfl, rfl⟩
        · have e5 : ¬ (1000000000 : Int) < ((acc + c.toNat * m : Nat) : Int) := by omega
          have g1 : ((b + (e + 1) : Nat) : Int) ≤ (a.length : Int) := by omega
          have g2 : (b : Int) ≤ ((b + (e + 1) : Nat) : Int) := by omega
          simp only [e5, g1, g2, and_self, true_and, if_true, decide_false, cond_false, v_l01Var (a := ((acc + c.toNat * m : Nat) : Int)) (by omega) (by omega), Option.bind_some, Sum.elim_inl, Int.toNat_natCast]
          rw [List.drop_take, show b + (e + 1) - b = e + 1 by omega, hsub, ← hval, v_canon hp8 hs, hpl]
          by_cases hz : c.toNat = 0 ∧ 0 < e
          · simp only [hz, and_self, decide_true, Bool.not_true, Bool.not_false, cond_true, true_or, if_true]
            exact ⟨_, rfl, rfl⟩
          · rw [if_neg (by rw [hval]; omega)]
            simp only [hz, decide_false, Bool.not_true, Bool.not_false, cond_false]
            exact ⟨_, rfl, by simp only [Sum.elim_inr, outV]; rw [w4]⟩
      · have hp2 : (c.toNat - 128) * m ≤ 127 * m := Nat.mul_le_mul_right _ (by omega)
        have e2 : ¬ (c.toNat : Int) < 128 := by omega
        have hcm : ((c.toNat : Int).tmod 128 * (m : Int)) = (((c.toNat - 128) * m : Nat) : Int) := by
          rw [Int.tmod_eq_emod_of_nonneg (by omega), show (c.toNat : Int) % 128 = ((c.toNat - 128 : Nat) : Int) by omega, Int.natCast_mul]
        have w3 : IntKind.i64.wrap ((acc : Int) + IntKind.i64.wrap ((c.toNat : Int).tmod 128 * (m : Int))) = ((acc + (c.toNat - 128) * m : Nat) : Int) := by
          rw [hcm, wrap_ok (n := (((c.toNat - 128) * m : Nat) : Int)) (by omega) (by omega), wrap_ok (by omega) (by omega)]; omega
        have w5 : IntKind.i64.wrap ((m : Int) * 128) = ((m * 128 : Nat) : Int) := by rw [wrap_ok (by omega) (by omega)]; omega
        simp only [e2, decide_false, cond_false, w3, w5, rvS, hs, if_false]
        refine ih (e + 1) (acc + (c.toNat - 128) * m) (m * 128) b j a (p ++ [c]) (by omega) (by rw [hm, Nat.pow_succ]) hsub.symm (by simp [hpl]) (fun x hx => ?_) ?_ (by omega) hb ha
        · rcases List.mem_append.1 hx with hx | hx
          · exact hp8 x hx
          · simp at hx; subst hx; omega
        · rw [vVal_app, hpl, ← hm, hv, show c.toNat % 128 = c.toNat - 128 by omega]
    · have h2 : ¬ ((b + e : Nat) : Int) < (a.length : Int) := by omega
      simp only [h2, decide_false, cond_false, Option.bind_some, Sum.elim_inl]
      rw [List.drop_eq_nil_of_le (by omega)]
      exact ⟨.inl (), rfl, rfl⟩
theorem v_specVar {a : List UInt8} {b : Nat} (hb : b ≤ a.length) (ha : a.length ≤ 4294967296) : T_spec_ReadVar (a, (b : Int)) = some (outV b (rvS 5 0 0 1 (a.drop b))) := by
  rw [e_T_spec_ReadVar, e_T_spec_l01In]
  have h1 : (0 : Int) ≤ (b : Int) := by omega
  have h2 : (b : Int) ≤ (a.length : Int) := by omega
  obtain ⟨q, h3, h4⟩ := l_specVar 5 0 0 1 b 18446744073709551610 a [] rfl rfl (by simp) rfl (by simp) rfl (by decide) hb ha
  simp only [Nat.add_zero, Int.natCast_zero, Int.natCast_one] at h3 h4
  have h5 : L_spec_ReadVar_1 fuel (a, (b : Int), 0, 1, (b : Int)) = some q := h3
  simp only [h1, h2, decide_true, cond_true, Bool.not_true, cond_false, Option.bind_some, Sum.elim_inl, h5]
  rw [← h4]
  cases q <;> rfl
/-- What is read is what its number's bytes are. -/
theorem rvS_enc : ∀ (k i acc m : Nat) (t p : List UInt8), k + i = 5 → p.length = i → (∀ x ∈ p, 128 ≤ x.toNat) → acc = vVal p → m = 128 ^ i → ∀ v n, rvS k i acc m t = some (v, n) → ∃ q, t = q ++ t.drop (n - i) ∧ q.length = n - i ∧ p ++ q = vEnc v
  | 0, _, _, _, _, _, _, _, _, _, _, v, n, h => by simp [rvS] at h
  | _ + 1, _, _, _, [], _, _, _, _, _, _, v, n, h => by simp [rvS] at h
  | k + 1, i, acc, m, c :: t, p, hk, hpl, hp, hv, hm, v, n, h => by
    simp only [rvS] at h
    split at h
    · rename_i hs
      split at h
      · cases h
      · rename_i hz
        cases h
        refine ⟨[c], by simp, by simp, ?_⟩
        have h1 : vVal (p ++ [c]) = acc + c.toNat * m := by rw [vVal_app, Nat.mod_eq_of_lt hs, hpl, ← hm, hv]
        have h2 := v_canon hp hs
        rw [decide_eq_false (by rw [hpl]; omega), Bool.not_false, beq_iff_eq, h1] at h2
        exact h2.symm
    · rename_i hs
      have hc := u8lt c
      obtain ⟨q, h1, h2, h3⟩ := rvS_enc k (i + 1) _ _ t (p ++ [c]) (by omega) (by simp [hpl]) (fun x hx => by
        rcases List.mem_append.1 hx with hx | hx
        · exact hp x hx
        · simp at hx; subst hx; omega) (by rw [vVal_app, hpl, ← hm, hv, show c.toNat % 128 = c.toNat - 128 by omega]) (by rw [hm, Nat.pow_succ]) v n h
      have hn := (rvS_bound _ _ _ _ _ _ _ h).2.1
      refine ⟨c :: q, ?_, by simp; omega, by rw [← h3]; simp⟩
      rw [show n - i = (n - (i + 1)) + 1 by omega, List.drop_succ_cons, List.cons_append, ← h1]
def numR (a : List UInt8) (p : Nat) (bad : Bool) : Int × List UInt8 × Int × Bool :=
  bif bad then (0, a, (p : Int), true) else match rvS 5 0 0 1 (a.drop p) with
    | none => (0, a, (p : Int), true)
    | some (v, n) => ((v : Int), a, ((p + n : Nat) : Int), false)
theorem n_impl {a : List UInt8} {p : Nat} {bad : Bool} (hp : p ≤ a.length) (ha : a.length ≤ 4294967296) : T___impl_scanner__number (a, (p : Int), bad) = some (numR a p bad) := by
  rw [e_T___impl_scanner__number, v_implVar hp ha]
  cases bad <;> simp only [numR, cond_true, cond_false, Option.bind_some, Sum.elim_inl]
  cases rvS 5 0 0 1 (a.drop p) with
  | none => rfl
  | some q => rfl
theorem n_spec {a : List UInt8} {p : Nat} {bad : Bool} (hp : p ≤ a.length) (ha : a.length ≤ 4294967296) : T_spec_l05Var (a, (p : Int), bad) = some (numR a p bad) := by
  rw [e_T_spec_l05Var, v_specVar hp ha]
  cases bad <;> simp only [numR, cond_true, cond_false, Option.bind_some, Sum.elim_inl]
  cases rvS 5 0 0 1 (a.drop p) with
  | none => rfl
  | some q => rfl
def takR (a : List UInt8) (p : Nat) (bad : Bool) (n : Nat) : List UInt8 × List UInt8 × Int × Bool :=
  bif bad || decide (a.length - p < n) then ([], a, (p : Int), true) else ((a.drop p).take n, a, ((p + n : Nat) : Int), false)
theorem t_impl {a : List UInt8} {p n : Nat} {bad : Bool} (hp : p ≤ a.length) (ha : a.length ≤ 4294967296) (hn : n ≤ 4294967296) : T___impl_scanner__take ((a, (p : Int), bad), (n : Int)) = some (takR a p bad n) := by
  rw [e_T___impl_scanner__take]
  have w1 : IntKind.i64.wrap ((a.length : Int) - (p : Int)) = ((a.length - p : Nat) : Int) := by rw [wrap_ok (by omega) (by omega)]; omega
  have w2 : IntKind.i64.wrap ((p : Int) + (n : Int)) = ((p + n : Nat) : Int) := by rw [wrap_ok (by omega) (by omega)]; omega
  have w3 : IntKind.i64.wrap (((p + n : Nat) : Int) - (n : Int)) = (p : Int) := by rw [wrap_ok (by omega) (by omega)]; omega
  cases bad
  · by_cases h : a.length - p < n
    · have h' : ((a.length - p : Nat) : Int) < (n : Int) := by omega
      simp only [takR, w1, h, h', decide_true, cond_true, cond_false, Bool.false_or, Option.bind_some, Sum.elim_inl]
    · have h' : ¬ ((a.length - p : Nat) : Int) < (n : Int) := by omega
      have g1 : ((p + n : Nat) : Int) ≤ (a.length : Int) := by omega
      have g2 : (p : Int) ≤ ((p + n : Nat) : Int) := by omega
      simp only [takR, w1, w2, w3, h, h', g1, g2, decide_false, cond_false, Bool.false_or, Option.bind_some, Sum.elim_inl, Int.natCast_nonneg, true_and, if_true, Int.toNat_natCast, List.drop_take, Nat.add_sub_cancel_left]
  · rfl
theorem t_spec {a : List UInt8} {p n : Nat} {bad : Bool} (hp : p ≤ a.length) (ha : a.length ≤ 4294967296) (hn : n ≤ 4294967296) : T_spec_l05Take ((a, (p : Int), bad), (n : Int)) = some (takR a p bad n) := by
  have := t_impl (bad := bad) hp ha hn
  rw [e_T___impl_scanner__take] at this
  rw [e_T_spec_l05Take]
  exact this
def oneR (a : List UInt8) (p : Nat) (bad : Bool) : Int × List UInt8 × Int × Bool :=
  bif bad then (0, a, (p : Int), true) else match a.drop p with
    | [] => (0, a, (p : Int), true)
    | c :: _ => ((c.toNat : Int), a, ((p + 1 : Nat) : Int), false)
theorem take_one {a : List UInt8} {p : Nat} (hp : p ≤ a.length) : (takR a p false 1) = match a.drop p with
    | [] => ([], a, (p : Int), true)
    | c :: _ => ([c], a, ((p + 1 : Nat) : Int), false) := by
  unfold takR
  have hl : (a.drop p).length = a.length - p := by simp
  cases hd : a.drop p with
  | nil =>
    rw [hd, List.length_nil] at hl
    have hq : a.length - p < 1 := by omega
    rw [decide_eq_true hq]; rfl
  | cons c t =>
    rw [hd] at hl; simp at hl
    have hq : ¬ a.length - p < 1 := by omega
    rw [decide_eq_false hq]; simp
theorem o_impl {a : List UInt8} {p : Nat} {bad : Bool} (hp : p ≤ a.length) (ha : a.length ≤ 4294967296) : T___impl_scanner__octet (a, (p : Int), bad) = some (oneR a p bad) := by
  rw [e_T___impl_scanner__octet, show (1 : Int) = ((1 : Nat) : Int) from rfl, t_impl hp ha (by decide)]
  cases bad
  · rw [take_one hp]
    unfold oneR
    cases a.drop p with
    | nil => rfl
    | cons c t =>
      have hc := u8lt c
      simp only [Option.bind_some, List.length_singleton, cond_false]
      simp only [show ([c] == ([] : List UInt8)) = false from rfl, cond_false]
      rw [if_pos (by decide)]
      simp only [List.getD_cons_zero]
      rw [wrap_ok (by omega) (by omega)]
  · rfl
theorem o_spec {a : List UInt8} {p : Nat} {bad : Bool} (hp : p ≤ a.length) (ha : a.length ≤ 4294967296) : T_spec_l05One (a, (p : Int), bad) = some (oneR a p bad) := by
  rw [e_T_spec_l05One, show (1 : Int) = ((1 : Nat) : Int) from rfl, t_spec hp ha (by decide)]
  cases bad
  · rw [take_one hp]
    unfold oneR
    cases a.drop p with
    | nil => rfl
    | cons c t =>
      have hc := u8lt c
      simp only [Option.bind_some, List.length_singleton, cond_false]
      rw [if_pos (by decide)]
      simp only [List.getD_cons_zero]
      rw [wrap_ok (by omega) (by omega)]
  · rfl
/-- A text with its length ahead; the program wants it short. -/
def shR (lim : Nat) (a : List UInt8) (p : Nat) (bad : Bool) : List UInt8 × List UInt8 × Int × Bool :=
  bif bad then ([], a, (p : Int), true) else match rvS 5 0 0 1 (a.drop p) with
    | none => ([], a, (p : Int), true)
    | some (v, n) => takR a (p + n) (decide (lim < v)) v
theorem rv_le {a : List UInt8} {p v n : Nat} (hp : p ≤ a.length) (h : rvS 5 0 0 1 (a.drop p) = some (v, n)) : v ≤ 1000000000 ∧ 0 < n ∧ p + n ≤ a.length := by
  have := rvS_bound _ _ _ _ _ _ _ h
  rw [List.length_drop] at this
  omega
theorem s_impl {a : List UInt8} {p : Nat} {bad : Bool} (hp : p ≤ a.length) (ha : a.length ≤ 4294967296) : T___impl_scanner__short (a, (p : Int), bad) = some (shR 20000 a p bad) := by
  rw [e_T___impl_scanner__short, n_impl hp ha]
  cases bad
  · simp only [numR, shR, cond_false, Option.bind_some]
    cases hr : rvS 5 0 0 1 (a.drop p) with
    | none =>
      simp only [show ¬ (20000 : Int) < 0 by decide, decide_false, cond_false, Option.bind_some, Sum.elim_inl]
      rw [show (0 : Int) = ((0 : Nat) : Int) from rfl, t_impl hp ha (by decide)]
      rfl
    | some q =>
      obtain ⟨v, n⟩ := q
      obtain ⟨h1, h2, h3⟩ := rv_le hp hr
      by_cases h : 20000 < v
      · have h' : (20000 : Int) < (v : Int) := by omega
        simp only [h, h', decide_true, cond_true, Option.bind_some, Sum.elim_inl]
        rw [t_impl h3 ha (by omega)]; rfl
      · have h' : ¬ (20000 : Int) < (v : Int) := by omega
        simp only [h, h', decide_false, cond_false, Option.bind_some, Sum.elim_inl]
        rw [t_impl h3 ha (by omega)]; rfl
  · simp only [numR, shR, cond_true, Option.bind_some, show ¬ (20000 : Int) < 0 by decide, decide_false, cond_false, Sum.elim_inl]
    rw [show (0 : Int) = ((0 : Nat) : Int) from rfl, t_impl hp ha (by decide)]
    rfl
theorem s_spec {a : List UInt8} {p : Nat} {bad : Bool} (hp : p ≤ a.length) (ha : a.length ≤ 4294967296) : T_spec_l05ReadShort (a, (p : Int), bad) = some (shR 1000000000 a p bad) := by
  rw [e_T_spec_l05ReadShort, n_spec hp ha]
  cases bad
  · simp only [numR, shR, cond_false, Option.bind_some]
    cases hr : rvS 5 0 0 1 (a.drop p) with
    | none =>
      simp only [Option.bind_some]
      rw [show (0 : Int) = ((0 : Nat) : Int) from rfl, t_spec hp ha (by decide)]
      rfl
    | some q =>
      obtain ⟨v, n⟩ := q
      obtain ⟨h1, h2, h3⟩ := rv_le hp hr
      simp only [Option.bind_some]
      have hv : ¬ 1000000000 < v := by omega
      rw [t_spec h3 ha (by omega), decide_eq_false hv]; rfl
  · simp only [numR, shR, cond_true, Option.bind_some]
    rw [show (0 : Int) = ((0 : Nat) : Int) from rfl, t_spec hp ha (by decide)]
    rfl
theorem v_byte {d : Int} (h0 : 0 ≤ d) (h1 : d < 256) : T_spec_l05Byte d = some [UInt8.ofNat d.toNat] := by
  rw [e_T_spec_l05Byte, u8w h0 h1]; rfl
theorem v_short {t : List UInt8} (h : t.length ≤ 1048576) : T_spec_l05Short t = some (vEnc t.length ++ t) := by
  rw [e_T_spec_l05Short, v_l01Var (by omega) (by omega)]
  have := vEnc_len t.length
  simp only [Option.bind_some, Int.toNat_natCast]
  rw [if_neg (by omega)]
theorem bad_num {a : List UInt8} {p : Nat} : numR a p true = (0, a, (p : Int), true) := rfl
theorem bad_one {a : List UInt8} {p : Nat} : oneR a p true = (0, a, (p : Int), true) := rfl
theorem bad_sh {a : List UInt8} {p n : Nat} : shR n a p true = ([], a, (p : Int), true) := rfl
theorem bad_tak {a : List UInt8} {p n : Nat} : takR a p true n = ([], a, (p : Int), true) := rfl
theorem num_enc {a : List UInt8} {p v n : Nat} (h : rvS 5 0 0 1 (a.drop p) = some (v, n)) : a.drop p = vEnc v ++ a.drop (p + n) := by
  obtain ⟨q, h1, h2, h3⟩ := rvS_enc 5 0 0 1 _ [] rfl rfl (by simp) rfl rfl v n h
  rw [List.nil_append] at h3
  rw [Nat.sub_zero, List.drop_drop, h3] at h1
  exact h1
theorem x_isDaemonI (a : Int) : T_impl_isDaemon a = some (decide (1 ≤ a ∧ a ≤ 5)) := by
  rw [e_T_impl_isDaemon, (x_inRange _ _ _).2]; rfl
theorem levI (d : Int) : (d == 1 || d == 2) = decide ((1 : Int) ≤ d ∧ d ≤ 2) := by
  by_cases h1 : d = 1
  · subst h1; rfl
  · by_cases h2 : d = 2
    · subst h2; rfl
    · have : ¬ ((1 : Int) ≤ d ∧ d ≤ 2) := by omega
      simp [h1, h2, this]
def itemB (k d l : Int) (t : List UInt8) : Bool := decide ((1 ≤ k ∧ k ≤ 60) ∧ (1 ≤ d ∧ d ≤ 5) ∧ (1 ≤ l ∧ l ≤ 2) ∧ (t.length : Int) ≤ 60)
theorem x_ItemOk (k d l : Int) (t : List UInt8) : T_spec_ItemOk (k, d, l, t) = some (itemB k d l t) ∧ T_impl_ItemOk (k, d, l, t) = some (itemB k d l t) := by
  rw [e_T_spec_ItemOk, e_T_impl_ItemOk]
  simp only [(x_inRange _ _ _).1, (x_inRange _ _ _).2, x_isDaemonI, x_isLevel, levI, Option.bind_some, itemB]
  by_cases h1 : (1 ≤ k ∧ k ≤ 60) <;> by_cases h2 : (1 ≤ d ∧ d ≤ 5) <;> by_cases h3 : (1 ≤ l ∧ l ≤ 2) <;> simp [h1, h2, h3]
/-- An item's bytes. -/
def itemT (k d l : Int) (t : List UInt8) : List UInt8 := vEnc k.toNat ++ [UInt8.ofNat d.toNat] ++ [UInt8.ofNat l.toNat] ++ (vEnc t.length ++ t)
theorem v_ItemText (k d l : Int) (t : List UInt8) : T_spec_ItemText (k, d, l, t) = some (bif itemB k d l t then (itemT k d l t, true) else ([], false)) := by
  rw [e_T_spec_ItemText, (x_ItemOk k d l t).1]
  cases h : itemB k d l t
  · rfl
  · simp only [itemB, decide_eq_true_eq] at h
    obtain ⟨h1, h2, h3, h4⟩ := h
    have wb : ∀ {x : Int}, 0 ≤ x → x < 256 → List.map (fun (n : (ET.int IntKind.u8).den) => UInt8.ofNat (Int.toNat n)) [IntKind.u8.wrap x] = [UInt8.ofNat x.toNat] := fun h0 h1 => by rw [u8w h0 h1]; rfl
    simp only [Option.bind_some, Bool.not_true, cond_false, v_l01Var (a := k) (by omega) (by omega), wb (x := d) (by omega) (by omega), wb (x := l) (by omega) (by omega), v_byte (d := d) (by omega) (by omega), v_byte (d := l) (by omega) (by omega), v_short (t := t) (by omega)]
    have e1 := vEnc_len k.toNat
    have e2 := vEnc_len t.length
    simp only [List.length_append, List.length_singleton]
    rw [if_neg (by omega), if_neg (by omega), if_neg (by omega)]
    rfl
theorem i_impl {a : List UInt8} (ha : a.length ≤ 4294967296) : ∃ r, T_spec_ReadItem a = some r ∧ T_impl_ReadItem a = some r := by
  have none4 : ∀ (x : Int × Int × Int × List UInt8) (q : Bool), (bif true then (some (((0 : Int), (0 : Int), (0 : Int), ([] : List UInt8)), false)) else some (x, q)) = some ((0, 0, 0, []), false) := fun _ _ => rfl
  rw [e_T_spec_ReadItem, e_T_impl_ReadItem]
  rw [show (0 : Int) = ((0 : Nat) : Int) from rfl, n_spec (Nat.zero_le _) ha, n_impl (Nat.zero_le _) ha]
  simp only [numR, cond_false, Option.bind_some]
  cases hr : rvS 5 0 0 1 (a.drop 0) with
  | none =>
    simp only [o_spec (Nat.zero_le _) ha, o_impl (Nat.zero_le _) ha, s_spec (Nat.zero_le _) ha, s_impl (Nat.zero_le _) ha, bad_one, bad_sh, Option.bind_some, e_T___impl_scanner__done, v_ItemText, Bool.not_true, cond_false, cond_true, Sum.elim_inl, Bool.not_false]
    exact ⟨_, rfl, rfl⟩
  | some q =>
    obtain ⟨k, n⟩ := q
    obtain ⟨h1, h2, h3⟩ := rv_le (Nat.zero_le _) hr
    have hk := num_enc hr
    rw [List.drop_zero] at hk
    simp only [Nat.zero_add] at h3 hk ⊢
    simp only [o_spec h3 ha, o_impl h3 ha, Option.bind_some]
    cases hd : a.drop n with
    | nil =>
      simp only [oneR, hd, cond_false, Option.bind_some]
      simp only [o_spec h3 ha, o_impl h3 ha, s_spec h3 ha, s_impl h3 ha, bad_one, bad_sh, Option.bind_some, e_T___impl_scanner__done, v_ItemText, Bool.not_true, cond_false, cond_true, Sum.elim_inl, Bool.not_false]
      exact ⟨_, rfl, rfl⟩
    | cons d t =>
      have h4 : n + 1 ≤ a.length := by
        have : (a.drop n).length = a.length - n := by simp
        rw [hd] at this; simp at this; omega
      have ht : a.drop (n + 1) = t := by rw [← List.drop_drop, hd]; rfl
      simp only [oneR, hd, cond_false, Option.bind_some]
      simp only [o_spec h4 ha, o_impl h4 ha, Option.bind_some]
      cases hl : t with
      | nil =>
        subst hl
        simp only [oneR, ht, cond_false, Option.bind_some]
        simp only [s_spec h4 ha, s_impl h4 ha, bad_sh, Option.bind_some, e_T___impl_scanner__done, v_ItemText, Bool.not_true, cond_false, cond_true, Sum.elim_inl, Bool.not_false]
        exact ⟨_, rfl, rfl⟩
      | cons l u =>
        subst hl
        have h5 : n + 1 + 1 ≤ a.length := by
          have : (a.drop (n + 1)).length = a.length - (n + 1) := by simp
          rw [ht] at this; simp at this; omega
        have hu : a.drop (n + 1 + 1) = u := by rw [← List.drop_drop, ht]; rfl
        simp only [oneR, ht, cond_false, Option.bind_some]
        simp only [s_spec h5 ha, s_impl h5 ha, shR, cond_false, Option.bind_some]
        cases hs : rvS 5 0 0 1 (a.drop (n + 1 + 1)) with
        | none =>
          simp only [Option.bind_some, e_T___impl_scanner__done, v_ItemText, Bool.not_true, cond_false, cond_true, Sum.elim_inl, Bool.not_false]
          exact ⟨_, rfl, rfl⟩
        | some q =>
          obtain ⟨v, m⟩ := q
          obtain ⟨g1, g2, g3⟩ := rv_le h5 hs
          have hv := num_enc hs
          rw [hu] at hv
          simp only [takR]
          by_cases hav : a.length - (n + 1 + 1 + m) < v
          · simp only [hav, decide_true, Bool.or_true, cond_true, Option.bind_some, e_T___impl_scanner__done, v_ItemText, Bool.not_true, cond_false, Sum.elim_inl, Bool.not_false]
            exact ⟨_, rfl, rfl⟩
          · have hx : ¬ 1000000000 < v := by omega
            generalize hz : (a.drop (n + 1 + 1 + m)).take v = z
            have hzl : z.length = v := by rw [← hz]; simp; omega
            have hall : a = vEnc k ++ (d :: l :: (vEnc v ++ (z ++ a.drop (n + 1 + 1 + m + v)))) := by
              have hq : a.drop (n + 1 + 1 + m + v) = (a.drop (n + 1 + 1 + m)).drop v := by rw [List.drop_drop]
              rw [hq, ← hz, List.take_append_drop, ← hv, ← hd]
              exact hk
            simp only [hav, hx, decide_false, Bool.or_false, cond_false, Option.bind_some, e_T___impl_scanner__done, v_ItemText]
            by_cases hbig : 20000 < v
            · have hb : itemB (k : Int) (d.toNat : Int) (l.toNat : Int) z = false := by
                simp only [itemB, decide_eq_false_iff_not]; omega
              simp only [hbig, hb, decide_true, cond_true, cond_false, Bool.not_true, Bool.not_false, Option.bind_some, Sum.elim_inl]
              exact ⟨_, rfl, rfl⟩
            · simp only [hbig, decide_false, cond_false, Bool.not_false, cond_true, Option.bind_some, (x_ItemOk _ _ _ _).2]
              have htext : itemB (k : Int) (d.toNat : Int) (l.toNat : Int) z = true → (itemT (k : Int) (d.toNat : Int) (l.toNat : Int) z == a) = (((n + 1 + 1 + m + v : Nat) : Int) == (a.length : Int)) := by
                intro _
                have e1 : itemT (k : Int) (d.toNat : Int) (l.toNat : Int) z = vEnc k ++ (d :: l :: (vEnc v ++ z)) := by
                  simp only [itemT, Int.toNat_natCast, byte_of (c := d) rfl, byte_of (c := l) rfl, hzl]
                  simp
                rw [e1]
                by_cases hend : n + 1 + 1 + m + v = a.length
                · have : a.drop (n + 1 + 1 + m + v) = [] := List.drop_eq_nil_of_le (by omega)
                  rw [this, List.append_nil] at hall
                  rw [← hall, hend]; simp
                · have hne : a.drop (n + 1 + 1 + m + v) ≠ [] := by simp; omega
                  have h6 : ¬ vEnc k ++ (d :: l :: (vEnc v ++ z)) = a := by
                    intro h
                    rw [hall] at h
                    have := congrArg List.length h
                    simp at this
                    omega
                  rw [beq_eq_false_iff_ne.2 h6, beq_eq_false_iff_ne.2 (by omega)]
              cases hb : itemB (k : Int) (d.toNat : Int) (l.toNat : Int) z with
              | false =>
                cases (((n + 1 + 1 + m + v : Nat) : Int) == (a.length : Int)) <;> exact ⟨_, rfl, rfl⟩
              | true =>
                simp only [cond_true, Bool.not_true, cond_false, Option.bind_some, htext hb]
                cases (((n + 1 + 1 + m + v : Nat) : Int) == (a.length : Int)) <;> exact ⟨_, rfl, rfl⟩
/-- From p to p' the text reads t. -/
def Rd (a : List UInt8) (p p' : Nat) (t : List UInt8) : Prop := p' ≤ a.length ∧ a.drop p = t ++ a.drop p'
theorem Rd.refl {a : List UInt8} {p : Nat} (h : p ≤ a.length) : Rd a p p [] := ⟨h, rfl⟩
theorem Rd.trans {a s t : List UInt8} {p q r : Nat} (h1 : Rd a p q s) (h2 : Rd a q r t) : Rd a p r (s ++ t) := ⟨h2.1, by rw [h1.2, h2.2, List.append_assoc]⟩
theorem Rd.all {a t : List UInt8} {p : Nat} (h : Rd a 0 p t) : (t == a) = ((p : Int) == (a.length : Int)) := by
  obtain ⟨h1, h2⟩ := h
  rw [List.drop_zero] at h2
  by_cases hp : p = a.length
  · rw [List.drop_eq_nil_of_le (by omega), List.append_nil] at h2
    rw [← h2, hp]; simp
  · have h3 : ¬ t = a := fun e => by
      have := congrArg List.length h2
      rw [e] at this
      simp at this; omega
    rw [beq_eq_false_iff_ne.2 h3, beq_eq_false_iff_ne.2 (by omega)]
/-- A step of the reference and of the program beside each other. E: they agree; F: what alone the program refuses. -/
structure Stp (a : List UInt8) (p q : Nat) (bs bi : Bool) (p' q' : Nat) (bs' bi' : Bool) (t : List UInt8) (E F : Prop) : Prop where
  hp : p' ≤ a.length
  hq : q' ≤ a.length
  go : bi' = false → bi = false ∧ bs' = false ∧ q' = p' ∧ E
  rd : bs' = false → bs = false ∧ Rd a p p' t
  far : bs' = false → bi = false → bi' = true → F
theorem Stp.trans {a t1 t2 : List UInt8} {p q p1 q1 p2 q2 : Nat} {bs bi bs1 bi1 bs2 bi2 : Bool} {E1 E2 F1 F2 : Prop} (h1 : Stp a p q bs bi p1 q1 bs1 bi1 t1 E1 F1) (h2 : Stp a p1 q1 bs1 bi1 p2 q2 bs2 bi2 t2 E2 F2) :
    Stp a p q bs bi p2 q2 bs2 bi2 (t1 ++ t2) (E1 ∧ E2) (F1 ∨ F2) := by
  refine ⟨h2.hp, h2.hq, fun h => ?_, fun h => ?_, fun h h0 h' => ?_⟩
  · obtain ⟨g1, g2, g3, g4⟩ := h2.go h
    obtain ⟨k1, k2, k3, k4⟩ := h1.go g1
    exact ⟨k1, g2, g3, k4, g4⟩
  · obtain ⟨g1, g2⟩ := h2.rd h
    obtain ⟨k1, k2⟩ := h1.rd g1
    exact ⟨k1, k2.trans g2⟩
  · cases hb : bi1 with
    | true => exact .inl (h1.far (h2.rd h).1 h0 hb)
    | false => exact .inr (h2.far h hb h')
theorem Stp.mono {a t : List UInt8} {p q p1 q1 : Nat} {bs bi bs1 bi1 : Bool} {E E' F F' : Prop} (h : Stp a p q bs bi p1 q1 bs1 bi1 t E F) (hE : E → E') (hF : F → F') : Stp a p q bs bi p1 q1 bs1 bi1 t E' F' :=
  ⟨h.hp, h.hq, fun e => by obtain ⟨g1, g2, g3, g4⟩ := h.go e; exact ⟨g1, g2, g3, hE g4⟩, h.rd, fun e1 e2 e3 => hF (h.far e1 e2 e3)⟩
theorem oneR_rd {a : List UInt8} {p : Nat} {b : Bool} (hp : p ≤ a.length) : ∃ (d p' : Nat) (b' : Bool), oneR a p b = ((d : Int), a, (p' : Int), b') ∧ p' ≤ a.length ∧ d < 256 ∧ (b' = false → b = false ∧ Rd a p p' [UInt8.ofNat d]) := by
  cases b with
  | true => exact ⟨0, p, true, rfl, hp, by decide, fun h => by cases h⟩
  | false =>
    unfold oneR
    have hl : (a.drop p).length = a.length - p := by simp
    cases hd : a.drop p with
    | nil => exact ⟨0, p, true, rfl, hp, by decide, fun h => by cases h⟩
    | cons c t =>
      rw [hd, List.length_cons] at hl
      refine ⟨c.toNat, p + 1, false, rfl, by omega, u8lt c, fun _ => ⟨rfl, by omega, ?_⟩⟩
      rw [byte_of (c := c) rfl, hd, ← List.drop_drop, hd]; rfl
theorem one_step {a : List UInt8} {p q : Nat} {bs bi : Bool} (ha : a.length ≤ 4294967296) (hp : p ≤ a.length) (hq : q ≤ a.length) (hl : bi = false → bs = false ∧ q = p) :
    ∃ (d u p' q' : Nat) (bs' bi' : Bool), T_spec_l05One (a, (p : Int), bs) = some ((d : Int), a, (p' : Int), bs') ∧ T___impl_scanner__octet (a, (q : Int), bi) = some ((u : Int), a, (q' : Int), bi') ∧ d < 256 ∧ u < 256 ∧
      Stp a p q bs bi p' q' bs' bi' [UInt8.ofNat d] (u = d) False := by
  obtain ⟨d, p', bs', h1, h2, h3, h4⟩ := oneR_rd (b := bs) hp
  cases bi with
  | true => exact ⟨d, 0, p', q, bs', true, by rw [o_spec hp ha, h1], by rw [o_impl hq ha]; rfl, h3, by decide, h2, hq, fun h => (by cases h), h4, fun _ h => (by cases h)⟩
  | false =>
    obtain ⟨rfl, rfl⟩ := hl rfl
    exact ⟨d, d, p', p', bs', bs', by rw [o_spec hp ha, h1], by rw [o_impl hp ha, h1], h3, h3, h2, h2, fun h => ⟨rfl, h, rfl, rfl⟩, h4, fun h1 _ h2 => by rw [h1] at h2; cases h2⟩
theorem numR_rd {a : List UInt8} {p : Nat} {b : Bool} (hp : p ≤ a.length) : ∃ (v p' : Nat) (b' : Bool), numR a p b = ((v : Int), a, (p' : Int), b') ∧ p' ≤ a.length ∧ v ≤ 1000000000 ∧ (b' = false → b = false ∧ Rd a p p' (vEnc v)) := by
  cases b with
  | true => exact ⟨0, p, true, rfl, hp, by decide, fun h => by cases h⟩
  | false =>
    unfold numR
    cases hr : rvS 5 0 0 1 (a.drop p) with
    | none => exact ⟨0, p, true, rfl, hp, by decide, fun h => by cases h⟩
    | some q =>
      obtain ⟨v, n⟩ := q
      obtain ⟨h1, h2, h3⟩ := rv_le hp hr
      exact ⟨v, p + n, false, rfl, h3, h1, fun _ => ⟨rfl, h3, num_enc hr⟩⟩
theorem num_step {a : List UInt8} {p q : Nat} {bs bi : Bool} (ha : a.length ≤ 4294967296) (hp : p ≤ a.length) (hq : q ≤ a.length) (hl : bi = false → bs = false ∧ q = p) :
    ∃ (v u p' q' : Nat) (bs' bi' : Bool), T_spec_l05Var (a, (p : Int), bs) = some ((v : Int), a, (p' : Int), bs') ∧ T___impl_scanner__number (a, (q : Int), bi) = some ((u : Int), a, (q' : Int), bi') ∧ v ≤ 1000000000 ∧ u ≤ 1000000000 ∧
      Stp a p q bs bi p' q' bs' bi' (vEnc v) (u = v) False := by
  obtain ⟨d, p', bs', h1, h2, h3, h4⟩ := numR_rd (b := bs) hp
  cases bi with
  | true => exact ⟨d, 0, p', q, bs', true, by rw [n_spec hp ha, h1], by rw [n_impl hq ha]; rfl, h3, by decide, h2, hq, fun h => (by cases h), h4, fun _ h => (by cases h)⟩
  | false =>
    obtain ⟨rfl, rfl⟩ := hl rfl
    exact ⟨d, d, p', p', bs', bs', by rw [n_spec hp ha, h1], by rw [n_impl hp ha, h1], h3, h3, h2, h2, fun h => ⟨rfl, h, rfl, rfl⟩, h4, fun h1 _ h2 => by rw [h1] at h2; cases h2⟩
/-- A text with its length ahead. -/
def shT (t : List UInt8) : List UInt8 := vEnc t.length ++ t
theorem shR_rd {a : List UInt8} {p lim : Nat} {b : Bool} (hp : p ≤ a.length) : ∃ (t : List UInt8) (p' : Nat) (b' : Bool), shR lim a p b = (t, a, (p' : Int), b') ∧ p' ≤ a.length ∧ t.length ≤ a.length ∧ (b' = false → b = false ∧ t.length ≤ lim ∧ Rd a p p' (shT t)) := by
  cases b with
  | true => exact ⟨[], p, true, rfl, hp, by simp, fun h => by cases h⟩
  | false =>
    unfold shR
    cases hr : rvS 5 0 0 1 (a.drop p) with
    | none => exact ⟨[], p, true, rfl, hp, by simp, fun h => by cases h⟩
    | some q =>
      obtain ⟨v, n⟩ := q
      obtain ⟨h1, h2, h3⟩ := rv_le hp hr
      simp only [cond_false, takR]
      by_cases hc : (decide (lim < v) || decide (a.length - (p + n) < v)) = true
      · rw [hc]; exact ⟨[], p + n, true, rfl, h3, by simp, fun h => by cases h⟩
      · rw [Bool.not_eq_true] at hc
        rw [hc]
        simp only [Bool.or_eq_false_iff, decide_eq_false_iff_not] at hc
        have hz : ((a.drop (p + n)).take v).length = v := by simp; omega
        refine ⟨(a.drop (p + n)).take v, p + n + v, false, rfl, by omega, by omega, fun _ => ⟨by first | rfl | trivial, by omega, by omega, ?_⟩⟩
        rw [shT, hz, num_enc hr, List.append_assoc, ← List.drop_drop (i := v), List.take_append_drop]
theorem sh_step {a : List UInt8} {p q : Nat} {bs bi : Bool} (ha : a.length ≤ 4294967296) (hp : p ≤ a.length) (hq : q ≤ a.length) (hl : bi = false → bs = false ∧ q = p) :
    ∃ (t u : List UInt8) (p' q' : Nat) (bs' bi' : Bool), T_spec_l05ReadShort (a, (p : Int), bs) = some (t, a, (p' : Int), bs') ∧ T___impl_scanner__short (a, (q : Int), bi) = some (u, a, (q' : Int), bi') ∧ t.length ≤ a.length ∧ u.length ≤ a.length ∧
      Stp a p q bs bi p' q' bs' bi' (shT t) (u = t ∧ u.length ≤ 20000) (20000 < t.length) := by
  obtain ⟨d, p', bs', h1, h2, h3, h4⟩ := shR_rd (lim := 1000000000) (b := bs) hp
  have h4' : bs' = false → bs = false ∧ Rd a p p' (shT d) := fun h => ⟨(h4 h).1, (h4 h).2.2⟩
  cases bi with
  | true => exact ⟨d, [], p', q, bs', true, by rw [s_spec hp ha, h1], by rw [s_impl hq ha]; rfl, h3, by simp, h2, hq, fun h => (by cases h), h4', fun _ h => (by cases h)⟩
  | false =>
    obtain ⟨rfl, rfl⟩ := hl rfl
    obtain ⟨u, q', bi', g1, g2, g3, g4⟩ := shR_rd (lim := 20000) (b := false) hp
    refine ⟨d, u, p', q', bs', bi', by rw [s_spec hp ha, h1], by rw [s_impl hp ha, g1], h3, g3, h2, g2, fun h => ?_, h4', fun e1 _ e2 => ?_⟩
    · have hu := (g4 h).2.1
      simp only [shR, cond_false] at h1 g1
      cases hr : rvS 5 0 0 1 (a.drop q) with
      | none => rw [hr] at g1; simp only [Prod.mk.injEq] at g1; rw [← g1.2.2.2] at h; cases h
      | some x =>
        obtain ⟨v, n⟩ := x
        rw [hr] at g1 h1
        obtain ⟨k1, k2, k3⟩ := rv_le hp hr
        have hv : ¬ 20000 < v := fun hv => by
          simp only [takR, decide_eq_true hv, Bool.true_or, cond_true, Prod.mk.injEq] at g1
          rw [← g1.2.2.2] at h; cases h
        simp only [decide_eq_false hv] at g1
        simp only [decide_eq_false (show ¬ 1000000000 < v by omega)] at h1
        rw [h1] at g1
        simp only [Prod.mk.injEq, Int.natCast_inj] at g1
        obtain ⟨e1, _, e2, e3⟩ := g1
        exact ⟨rfl, by rw [e3]; exact h, e2.symm, e1.symm, hu⟩
    · simp only [shR, cond_false] at h1 g1
      cases hr : rvS 5 0 0 1 (a.drop q) with
      | none => rw [hr] at h1; simp only [Prod.mk.injEq] at h1; rw [← h1.2.2.2] at e1; cases e1
      | some x =>
        obtain ⟨v, n⟩ := x
        rw [hr] at g1 h1
        obtain ⟨k1, k2, k3⟩ := rv_le hp hr
        simp only [decide_eq_false (show ¬ 1000000000 < v by omega)] at h1
        by_cases hv : 20000 < v
        · simp only [takR, Bool.false_or] at h1
          by_cases hc : a.length - (q + n) < v
          · simp only [decide_eq_true hc, cond_true, Prod.mk.injEq] at h1
            rw [← h1.2.2.2] at e1; cases e1
          · simp only [decide_eq_false hc, cond_false, Prod.mk.injEq] at h1
            rw [← h1.1]; simp; omega
        · simp only [decide_eq_false hv] at g1
          rw [h1] at g1
          simp only [Prod.mk.injEq] at g1
          rw [g1.2.2.2] at e1
          rw [e1] at e2; cases e2
theorem vEnc_len5 : ∀ (k n : Nat), n < 128 ^ (k + 1) → (vEnc n).length ≤ k + 1
  | 0, n, h => by rw [vEnc_lo (by simp at h; omega)]; simp
  | k + 1, n, h => by
    by_cases hn : 127 < n
    · rw [vEnc_hi hn, List.length_cons]
      have := vEnc_len5 k (n / 128) (by rw [Nat.pow_succ] at h; omega)
      omega
    · rw [vEnc_lo (by omega)]; simp
theorem vEnc_l5 {n : Nat} (h : n ≤ 1000000000) : (vEnc n).length ≤ 5 := vEnc_len5 4 n (by have : (128 : Nat) ^ 5 = 34359738368 := rfl; omega)
/-- Numbers, one behind the other. -/
def NRun (T : List UInt8 × Int × Bool → Option (Int × List UInt8 × Int × Bool)) (a : List UInt8) : Nat → Nat → Bool → List Int → Nat → Bool → Prop
  | 0, p, b, ts, p', b' => ts = [] ∧ p' = p ∧ b' = b
  | n + 1, p, b, ts, p', b' => ∃ (t : Int) (l : List Int) (p1 : Nat) (b1 : Bool), ts = t :: l ∧ T (a, (p : Int), b) = some (t, a, (p1 : Int), b1) ∧ p1 ≤ a.length ∧ (b1 = false → b = false) ∧ NRun T a n p1 b1 l p' b'
theorem NRun.clear {T : List UInt8 × Int × Bool → Option (Int × List UInt8 × Int × Bool)} {a : List UInt8} : ∀ {n p : Nat} {b : Bool} {ts : List Int} {p' : Nat} {b' : Bool}, NRun T a n p b ts p' b' → b' = false → b = false
  | 0, _, _, _, _, _, h, h' => by rw [← h.2.2]; exact h'
  | n + 1, _, _, _, _, _, h, h' => by
    obtain ⟨t, l, p1, b1, _, _, _, h1, h2⟩ := h
    exact h1 (h2.clear h')
theorem nums_step {a : List UInt8} (ha : a.length ≤ 4294967296) : ∀ (n p q : Nat) (bs bi : Bool), p ≤ a.length → q ≤ a.length → (bi = false → bs = false ∧ q = p) →
    ∃ (ts us : List Int) (p' q' : Nat) (bs' bi' : Bool), NRun T_spec_l05Var a n p bs ts p' bs' ∧ NRun T___impl_scanner__number a n q bi us q' bi' ∧ ts.length = n ∧ us.length = n ∧ (∀ t ∈ ts, 0 ≤ t ∧ t ≤ 1000000000) ∧
      Stp a p q bs bi p' q' bs' bi' (ts.flatMap fun t => vEnc t.toNat) (us = ts) False
  | 0, p, q, bs, bi, hp, hq, hl => ⟨[], [], p, q, bs, bi, ⟨rfl, rfl, rfl⟩, ⟨rfl, rfl, rfl⟩, rfl, rfl, by simp, hp, hq, fun h => ⟨h, (hl h).1, (hl h).2, rfl⟩, fun h => ⟨h, Rd.refl hp⟩, fun _ h1 h2 => by rw [h1] at h2; cases h2⟩
  | n + 1, p, q, bs, bi, hp, hq, hl => by
    obtain ⟨t, u, p1, q1, bs1, bi1, e1, e2, l1, l2, S⟩ := num_step ha hp hq hl
    obtain ⟨ts, us, p2, q2, bs2, bi2, r1, r2, g1, g2, g3, S2⟩ := nums_step ha n p1 q1 bs1 bi1 S.hp S.hq (fun h => ⟨(S.go h).2.1, (S.go h).2.2.1⟩)
    refine ⟨(t : Int) :: ts, (u : Int) :: us, p2, q2, bs2, bi2, ⟨t, ts, p1, bs1, rfl, e1, S.hp, fun h => (S.rd h).1, r1⟩, ⟨u, us, q1, bi1, rfl, e2, S.hq, fun h => (S.go h).1, r2⟩, by simp [g1], by simp [g2], ?_, (S.trans S2).mono ?_ ?_⟩
    · intro x hx
      rcases List.mem_cons.1 hx with rfl | hx
      · omega
      · exact g3 x hx
    · rintro ⟨rfl, rfl⟩; rfl
    · rintro (h | h) <;> exact h
theorem u32w {n : Int} (h0 : 0 ≤ n) (h1 : n < 4294967296) : IntKind.u32.wrap n = n := by
  simp only [IntKind.wrap, IntKind.bits, IntKind.signed]
  first | (simp; omega) | omega
def bitS (a : Int) : Int := if a % 2 = 1 then ((BitVec.ofInt 32 (a / 2) ^^^ BitVec.ofInt 32 3558460437).toNat : Int) else a / 2
theorem bitS_in {a : Int} (h0 : 0 ≤ a) (h1 : a < 4294967296) : 0 ≤ bitS a ∧ bitS a < 4294967296 := by
  unfold bitS
  split
  · have := (BitVec.ofInt 32 (a / 2) ^^^ BitVec.ofInt 32 3558460437).isLt
    omega
  · omega
def bitN : Nat → Int → Int
  | 0, a => a
  | m + 1, a => bitN m (bitS a)
theorem bitN_in : ∀ (m : Nat) {a : Int}, 0 ≤ a → a < 4294967296 → 0 ≤ bitN m a ∧ bitN m a < 4294967296
  | 0, _, h0, h1 => ⟨h0, h1⟩
  | m + 1, a, h0, h1 => bitN_in m (bitS_in h0 h1).1 (bitS_in h0 h1).2
theorem toNat_u32 {a : Int} (h0 : 0 ≤ a) (h1 : a < 4294967296) : (BitVec.ofInt 32 a).toNat = a.toNat := by
  rw [BitVec.toNat_ofInt]
  omega
theorem l_specBits {b : List UInt8} {c : Int} : ∀ (m n d : Nat) (a : Int), m < n → d + m = 8 → 0 ≤ a → a < 4294967296 → L_spec_SumMore_1 n (a, b, c, (d : Int)) = some (.inl (bitN m a, b, c))
  | 0, n, d, a, hn, hd, h0, h1 => by
    obtain ⟨n, rfl⟩ : ∃ j, n = j + 1 := ⟨n - 1, by omega⟩
    rw [e_L_spec_SumMore_1, decide_eq_false (by omega)]; rfl
  | m + 1, n, d, a, hn, hd, h0, h1 => by
    obtain ⟨n, rfl⟩ : ∃ j, n = j + 1 := ⟨n - 1, by omega⟩
    have hb := bitS_in h0 h1
    have ih := l_specBits (b := b) (c := c) m n (d + 1) (bitS a) (by omega) (by omega) hb.1 hb.2
    have h2 : a.tdiv 2 = a / 2 := Int.tdiv_eq_ediv_of_nonneg h0
    have h3 : a.tmod 2 = a % 2 := Int.tmod_eq_emod_of_nonneg h0
    rw [e_L_spec_SumMore_1, decide_eq_true (by omega), cond_true, h2, h3, u32w (n := a / 2) (by omega) (by omega)]
    have hx := (BitVec.ofInt 32 (a / 2) ^^^ BitVec.ofInt 32 3558460437).isLt
    rw [u32w (n := (((BitVec.ofInt 32 (a / 2) ^^^ BitVec.ofInt 32 3558460437).toNat : Nat) : Int)) (by omega) (by omega)]
    have hs : (bif a % 2 == 1 then some (Sum.inl (((BitVec.ofInt 32 (a / 2) ^^^ BitVec.ofInt 32 3558460437).toNat : Int), b, c, (d : Int))) else some (Sum.inl (a / 2, b, c, (d : Int)))) = (some (Sum.inl (bitS a, b, c, (d : Int))) : Option ((Int × List UInt8 × Int × Int) ⊕ ((Int × List UInt8 × Int) ⊕ Int))) := by
      unfold bitS
      by_cases h : a % 2 = 1
      · rw [if_pos h, beq_iff_eq.2 h]; rfl
      · rw [if_neg h, beq_eq_false_iff_ne.2 h]; rfl
    rw [hs]
    simp only [Option.bind_some, Sum.elim_inl]
    rw [wrap_ok (by omega) (by omega)]
    exact ih
theorem l_implBits {b : List UInt8} {c : Int} : ∀ (m n d : Nat) (a : Int), m < n → d + m = 8 → 0 ≤ a → a < 4294967296 → L_impl_SumMore_1 n (a, b, c, (d : Int)) = some (.inl (bitN m a, b, c))
  | 0, n, d, a, hn, hd, h0, h1 => by
    obtain ⟨n, rfl⟩ : ∃ j, n = j + 1 := ⟨n - 1, by omega⟩
    rw [e_L_impl_SumMore_1, decide_eq_false (by omega)]; rfl
  | m + 1, n, d, a, hn, hd, h0, h1 => by
    obtain ⟨n, rfl⟩ : ∃ j, n = j + 1 := ⟨n - 1, by omega⟩
    have hb := bitS_in h0 h1
    have ih := l_implBits (b := b) (c := c) m n (d + 1) (bitS a) (by omega) (by omega) hb.1 hb.2
    have h2 : a.fdiv (2 ^ 1) = a / 2 := by rw [Int.fdiv_eq_ediv_of_nonneg _ (by decide)]; rfl
    have h3 : ((BitVec.ofInt 32 a &&& BitVec.ofInt 32 1).toNat : Int) = a % 2 := by
      rw [BitVec.toNat_and, toNat_u32 h0 h1, show (BitVec.ofInt 32 1).toNat = 1 from rfl, Nat.and_one_is_mod]
      omega
    rw [e_L_impl_SumMore_1, decide_eq_true (by omega), cond_true, h2, h3, u32w (n := a % 2) (by omega) (by omega)]
    have hx := (BitVec.ofInt 32 (a / 2) ^^^ BitVec.ofInt 32 3558460437).isLt
    rw [u32w (n := (((BitVec.ofInt 32 (a / 2) ^^^ BitVec.ofInt 32 3558460437).toNat : Nat) : Int)) (by omega) (by omega)]
    have hs : (bif a % 2 == 1 then some (Sum.inl (((BitVec.ofInt 32 (a / 2) ^^^ BitVec.ofInt 32 3558460437).toNat : Int), b, c, (d : Int))) else some (Sum.inl (a / 2, b, c, (d : Int)))) = (some (Sum.inl (bitS a, b, c, (d : Int))) : Option ((Int × List UInt8 × Int × Int) ⊕ ((Int × List UInt8 × Int) ⊕ Int))) := by
      unfold bitS
      by_cases h : a % 2 = 1
      · rw [if_pos h, beq_iff_eq.2 h]; rfl
      · rw [if_neg h, beq_eq_false_iff_ne.2 h]; rfl
    rw [hs]
    simp only [Option.bind_some, Sum.elim_inl]
    rw [wrap_ok (by omega) (by omega)]
    exact ih
def sumS (s : Int) (c : UInt8) : Int := bitN 8 ((BitVec.ofInt 32 s ^^^ BitVec.ofInt 32 (c.toNat : Int)).toNat : Int)
theorem sumS_in (s : Int) (c : UInt8) : 0 ≤ sumS s c ∧ sumS s c < 4294967296 := by
  have := (BitVec.ofInt 32 s ^^^ BitVec.ofInt 32 (c.toNat : Int)).isLt
  exact bitN_in 8 (by omega) (by omega)
def sumV (a : List UInt8) : Int := a.foldl sumS 4294967295
theorem x_SumOf {b : List UInt8} (hl : b.length ≤ 4294967296) : T_spec_SumOf b = some (sumV b) ∧ T_impl_SumOf b = some (sumV b) := by
  constructor
  · rw [e_T_spec_SumOf, e_T_spec_SumMore]
    obtain ⟨s, h1, h2⟩ := loop_all (L := L_spec_SumMore_2) b (fun s c => (s, b, c)) (fun s => s) (fun i s => s = (b.take i).foldl sumS 4294967295) (fun i y s hy hi hI => ⟨sumS s y, by rw [take_succ' hy, List.foldl_append, ← hI]; rfl, fun n => by
      have hc := y.toNat_lt
      have hx := (BitVec.ofInt 32 s ^^^ BitVec.ofInt 32 (y.toNat : Int)).isLt
      rw [e_L_spec_SumMore_2]
      simp only [show ((i : Int) < (b.length : Int)) by omega, decide_true, cond_true, Int.natCast_nonneg, if_true, Int.toNat_natCast, List.getD_eq_getElem?_getD, hy, Option.getD_some]
      rw [u32w (n := (y.toNat : Int)) (by omega) (by omega), u32w (n := (((BitVec.ofInt 32 s ^^^ BitVec.ofInt 32 (y.toNat : Int)).toNat : Nat) : Int)) (by omega) (by omega)]
      rw [show (0 : Int) = ((0 : Nat) : Int) from rfl, l_specBits 8 fuel 0 _ (by decide) rfl (by omega) (by omega)]
      simp only [Option.bind_some, Sum.elim_inl]
      rw [wrap_ok (by omega) (by omega)]; rfl⟩) (fun n s _ => by rw [e_L_spec_SumMore_2]; simp) (by rw [maxLen_eq]; omega) 4294967295 rfl
    rw [h2, h1, List.take_length]; rfl
  · rw [e_T_impl_SumOf, e_T_impl_SumMore]
    obtain ⟨s, h1, h2⟩ := loop_all (L := L_impl_SumMore_2) b (fun s c => (s, b, c)) (fun s => s) (fun i s => s = (b.take i).foldl sumS 4294967295) (fun i y s hy hi hI => ⟨sumS s y, by rw [take_succ' hy, List.foldl_append, ← hI]; rfl, fun n => by
      have hc := y.toNat_lt
      have hx := (BitVec.ofInt 32 s ^^^ BitVec.ofInt 32 (y.toNat : Int)).isLt
      rw [e_L_impl_SumMore_2]
      simp only [show ((i : Int) < (b.length : Int)) by omega, decide_true, cond_true, Int.natCast_nonneg, if_true, Int.toNat_natCast, List.getD_eq_getElem?_getD, hy, Option.getD_some]
      rw [u32w (n := (y.toNat : Int)) (by omega) (by omega), u32w (n := (((BitVec.ofInt 32 s ^^^ BitVec.ofInt 32 (y.toNat : Int)).toNat : Nat) : Int)) (by omega) (by omega)]
      rw [show (0 : Int) = ((0 : Nat) : Int) from rfl, l_implBits 8 fuel 0 _ (by decide) rfl (by omega) (by omega)]
      simp only [Option.bind_some, Sum.elim_inl]
      rw [wrap_ok (by omega) (by omega)]; rfl⟩) (fun n s _ => by rw [e_L_impl_SumMore_2]; simp) (by rw [maxLen_eq]; omega) 4294967295 rfl
    rw [h2, h1, List.take_length]; rfl
/-- A sum's bytes. -/
def four (a : Int) : List UInt8 := List.map (fun (n : (ET.int IntKind.u8).den) => UInt8.ofNat (Int.toNat n)) [IntKind.u8.wrap (a.fdiv (2 ^ 24)), IntKind.u8.wrap (a.fdiv (2 ^ 16)), IntKind.u8.wrap (a.fdiv (2 ^ 8)), IntKind.u8.wrap a]
theorem four_len (a : Int) : (four a).length = 4 := by simp [four]
/-- What a sealed text holds. -/
def unS (a : List UInt8) : List UInt8 × Bool := if 4 ≤ a.length ∧ a.length ≤ 20004 ∧ a.drop (a.length - 4) = four (sumV (a.take (a.length - 4))) then (a.take (a.length - 4), true) else ([], false)
theorem x_Unsealed {a : List UInt8} (hl : a.length ≤ 4294967296) : T_spec_Unsealed a = some (unS a) ∧ T_impl_Unsealed a = some (unS a) := by
  rw [e_T_spec_Unsealed, e_T_impl_Unsealed, wrap_ok (n := (a.length : Int) - 4) (by omega) (by omega)]
  unfold unS
  by_cases h4 : 4 ≤ a.length
  · have e : (a.length : Int) - 4 = ((a.length - 4 : Nat) : Int) := by omega
    rw [e]
    by_cases h2 : a.length ≤ 20004
    · have hs := x_SumOf (b := a.take (a.length - 4)) (by rw [List.length_take]; omega)
      simp only [show ¬ ((a.length - 4 : Nat) : Int) < 0 by omega, show ¬ (20000 : Int) < ((a.length - 4 : Nat) : Int) by omega, decide_false, cond_false, Int.natCast_nonneg, show ((a.length - 4 : Nat) : Int) ≤ (a.length : Int) by omega, and_self, if_true, Int.toNat_natCast, List.drop_zero, hs.1, Option.bind_some, e_T_spec_l02Four, e_T_impl_sumText, hs.2, List.take_length, h4, h2, true_and]
      rw [show List.map (fun (n : (ET.int IntKind.u8).den) => UInt8.ofNat (Int.toNat n)) [IntKind.u8.wrap ((sumV (a.take (a.length - 4))).fdiv (2 ^ 24)), IntKind.u8.wrap ((sumV (a.take (a.length - 4))).fdiv (2 ^ 16)), IntKind.u8.wrap ((sumV (a.take (a.length - 4))).fdiv (2 ^ 8)), IntKind.u8.wrap (sumV (a.take (a.length - 4)))] = four (sumV (a.take (a.length - 4))) from rfl]
      by_cases hq : a.drop (a.length - 4) = four (sumV (a.take (a.length - 4)))
      · have q1 : (a.drop (a.length - 4) == four (sumV (a.take (a.length - 4)))) = true := by rw [hq]; simp
        have q2 : (four (sumV (a.take (a.length - 4))) == a.drop (a.length - 4)) = true := by rw [hq]; simp
        simp only [q1, q2, Bool.not_true, Sum.elim_inl, cond_false, Int.natCast_nonneg, show ((a.length - 4 : Nat) : Int) ≤ (a.length : Int) by omega, and_self, if_true, Int.toNat_natCast, List.drop_zero, if_pos hq]
      · have q1 : (a.drop (a.length - 4) == four (sumV (a.take (a.length - 4)))) = false := beq_eq_false_iff_ne.2 hq
        have q2 : (four (sumV (a.take (a.length - 4))) == a.drop (a.length - 4)) = false := beq_eq_false_iff_ne.2 (Ne.symm hq)
        simp only [q1, q2, Bool.not_false, Sum.elim_inl, cond_true, if_neg hq, and_self]
    · simp only [show ¬ ((a.length - 4 : Nat) : Int) < 0 by omega, show (20000 : Int) < ((a.length - 4 : Nat) : Int) by omega, decide_false, decide_true, cond_false, cond_true, Option.bind_some, Sum.elim_inl, h2, and_false, false_and, if_false, and_self]
  · simp only [show (a.length : Int) - 4 < 0 by omega, decide_true, cond_true, Option.bind_some, Sum.elim_inl, h4, false_and, if_false, and_self]
/-- Bytes that were written are read again. -/
theorem nat_ofNat {n : Nat} (h : n < 256) : (UInt8.ofNat n).toNat = n := by simp; omega
theorem rvS_fwd : ∀ (k i acc m v : Nat) (t : List UInt8), (vEnc v).length ≤ k → acc + v * m ≤ 1000000000 → (0 < i → 0 < v) → rvS k i acc m (vEnc v ++ t) = some (acc + v * m, i + (vEnc v).length)
  | 0, _, _, _, v, _, h, _, _ => by
    exfalso
    have := vEnc_ne v
    exact this (List.length_eq_zero_iff.1 (by omega))
  | k + 1, i, acc, m, v, t, h, h1, h2 => by
    by_cases hv : 127 < v
    · have e : v % 128 * m + v / 128 * (m * 128) = v * m := by
        have h3 : v * m = (128 * (v / 128) + v % 128) * m := by rw [Nat.div_add_mod]
        rw [h3, Nat.add_mul, Nat.mul_comm m 128, ← Nat.mul_assoc, Nat.mul_comm (v / 128) 128, Nat.add_comm]
      rw [vEnc_hi hv, List.length_cons] at h ⊢
      simp only [List.cons_append, rvS]
      have hc : (UInt8.ofNat (v % 128 + 128)).toNat = v % 128 + 128 := nat_ofNat (by omega)
      rw [hc, if_neg (by omega), Nat.add_sub_cancel, rvS_fwd k (i + 1) _ (m * 128) (v / 128) t (by omega) (by rw [Nat.add_assoc, e]; exact h1) (fun _ => by omega), Nat.add_assoc acc, e]
      congr 2
      omega
    · rw [vEnc_lo (by omega)] at h ⊢
      simp only [List.cons_append, List.nil_append, rvS, List.length_singleton]
      rw [nat_ofNat (by omega), if_pos (by omega), if_neg (by rintro (⟨h3, h4⟩ | h3) <;> omega)]
theorem Rd.cut {a s t : List UInt8} {p q : Nat} (hp : p ≤ a.length) (h : Rd a p q (s ++ t)) : Rd a p (p + s.length) s ∧ Rd a (p + s.length) q t := by
  obtain ⟨h1, h2⟩ := h
  have hl := congrArg List.length h2
  simp only [List.length_drop, List.length_append] at hl
  have h3 : a.drop (p + s.length) = t ++ a.drop q := by
    rw [← List.drop_drop, h2, List.append_assoc, List.drop_left]
  exact ⟨⟨by omega, by rw [h3, h2, List.append_assoc]⟩, h1, h3⟩
theorem Rd.whole (a : List UInt8) : Rd a 0 a.length a := ⟨Nat.le_refl _, by simp⟩
theorem Rd.len {a s : List UInt8} {p q : Nat} (hp : p ≤ a.length) (h : Rd a p q s) : q = p + s.length := by
  obtain ⟨h1, h2⟩ := h
  have hl := congrArg List.length h2
  simp only [List.length_drop, List.length_append] at hl
  omega
theorem F_num {a : List UInt8} {p q v : Nat} (hp : p ≤ a.length) (h : Rd a p q (vEnc v)) (hv : v ≤ 1000000000) : numR a p false = ((v : Int), a, (q : Int), false) := by
  have hq := h.len hp
  unfold numR
  rw [h.2, rvS_fwd 5 0 0 1 v _ (vEnc_l5 hv) (by omega) (fun h => by omega)]
  simp only [cond_false, Nat.zero_add, Nat.mul_one, hq]
theorem F_one {a : List UInt8} {p q d : Nat} (hp : p ≤ a.length) (h : Rd a p q [UInt8.ofNat d]) (hd : d < 256) : oneR a p false = ((d : Int), a, (q : Int), false) := by
  have hq := h.len hp
  unfold oneR
  rw [h.2]
  simp only [cond_false, List.cons_append, List.nil_append, nat_ofNat hd, hq, List.length_singleton]
theorem F_sh {a t : List UInt8} {p q lim : Nat} (hp : p ≤ a.length) (h : Rd a p q (shT t)) (ht : t.length ≤ lim) (ht2 : t.length ≤ 1000000000) : shR lim a p false = (t, a, (q : Int), false) := by
  have hq := h.len hp
  obtain ⟨h1, h2⟩ := Rd.cut hp (show Rd a p q (vEnc t.length ++ t) from h)
  have hl := congrArg List.length h2.2
  simp only [List.length_drop, List.length_append] at hl
  have hq1 := h1.1
  have hqa := h2.1
  unfold shR
  rw [h1.2, rvS_fwd 5 0 0 1 t.length _ (vEnc_l5 ht2) (by omega) (fun h => by omega)]
  simp only [cond_false, Nat.zero_add, Nat.mul_one]
  rw [decide_eq_false (by omega)]
  try simp only [cond_false]
  unfold takR
  rw [decide_eq_false (by omega), h2.2, List.take_left]
  simp only [Bool.or_false, cond_false, Prod.mk.injEq, true_and, and_true]
  have := h2.len (by omega)
  omega
theorem r_ReadItem {a : List UInt8} (ha : a.length ≤ 4294967296) : ∃ (k d l : Int) (t : List UInt8) (ok : Bool), T_spec_ReadItem a = some ((k, d, l, t), ok) ∧ T_impl_ReadItem a = some ((k, d, l, t), ok) ∧ (ok = true → itemB k d l t = true ∧ itemT k d l t = a) ∧ (ok = false → k = 0 ∧ d = 0 ∧ l = 0 ∧ t = []) := by
  obtain ⟨k, k', p1, q1, bs1, bi1, e1, e1', lk, lk', S1⟩ := num_step (bs := false) (bi := false) ha (Nat.zero_le a.length) (Nat.zero_le a.length) (fun _ => ⟨rfl, rfl⟩)
  obtain ⟨d, d', p2, q2, bs2, bi2, e2, e2', ld, ld', S2⟩ := one_step ha S1.hp S1.hq (fun h => ⟨(S1.go h).2.1, (S1.go h).2.2.1⟩)
  obtain ⟨l, l', p3, q3, bs3, bi3, e3, e3', ll, ll', S3⟩ := one_step ha S2.hp S2.hq (fun h => ⟨(S2.go h).2.1, (S2.go h).2.2.1⟩)
  obtain ⟨t, t', p4, q4, bs4, bi4, e4, e4', lt, lt', S4⟩ := sh_step ha S3.hp S3.hq (fun h => ⟨(S3.go h).2.1, (S3.go h).2.2.1⟩)
  have S := ((S1.trans S2).trans S3).trans S4
  have es : T_spec_ReadItem a = some (bif bs4 || (!itemB (k : Int) (d : Int) (l : Int) t || !(itemT (k : Int) (d : Int) (l : Int) t == a)) then ((0, 0, 0, []), false) else (((k : Int), (d : Int), (l : Int), t), true)) := by
    rw [e_T_spec_ReadItem, show (0 : Int) = ((0 : Nat) : Int) from rfl, e1]
    simp only [Option.bind_some, e2, e3, e4, v_ItemText]
    cases bs4 <;> cases itemB (k : Int) (d : Int) (l : Int) t <;> simp <;> (cases itemT (k : Int) (d : Int) (l : Int) t == a <;> rfl)
  have ei : T_impl_ReadItem a = some (bif bi4 || (!((q4 : Int) == (a.length : Int)) || !itemB (k' : Int) (d' : Int) (l' : Int) t') then ((0, 0, 0, []), false) else (((k' : Int), (d' : Int), (l' : Int), t'), true)) := by
    rw [e_T_impl_ReadItem, show (0 : Int) = ((0 : Nat) : Int) from rfl, e1']
    simp only [Option.bind_some, e2', e3', e4', e_T___impl_scanner__done, (x_ItemOk _ _ _ _).2]
    cases bi4 <;> cases itemB (k' : Int) (d' : Int) (l' : Int) t' <;> simp <;> (cases ((q4 : Int) == (a.length : Int)) <;> rfl)
  rw [es, ei]
  cases hb : bi4 with
  | false =>
    obtain ⟨_, hbs, hq, ⟨⟨hk, hd⟩, hl⟩, ht, _⟩ := S.go hb
    subst hk hd hl ht hq
    rw [hbs]
    have hT : (itemT (k' : Int) (d' : Int) (l' : Int) t' == a) = ((q4 : Int) == (a.length : Int)) := by
      rw [← (S.rd hbs).2.all]; rfl
    cases hv : itemB (k' : Int) (d' : Int) (l' : Int) t' with
    | false => exact ⟨0, 0, 0, [], false, rfl, by simp, fun h => (by cases h), fun _ => ⟨rfl, rfl, rfl, rfl⟩⟩
    | true =>
      rw [← hT]
      cases hq : (itemT (k' : Int) (d' : Int) (l' : Int) t' == a) with
      | false => exact ⟨0, 0, 0, [], false, rfl, rfl, fun h => (by cases h), fun _ => ⟨rfl, rfl, rfl, rfl⟩⟩
      | true => exact ⟨_, _, _, _, true, rfl, rfl, fun _ => ⟨hv, eq_of_beq hq⟩, fun h => by cases h⟩
  | true =>
    have hz : (bs4 || (!itemB (k : Int) (d : Int) (l : Int) t || !(itemT (k : Int) (d : Int) (l : Int) t == a))) = true := by
      cases hbs : bs4 with
      | true => rfl
      | false =>
        have hv : itemB (k : Int) (d : Int) (l : Int) t = false := by
          rcases S.far hbs rfl hb with ((h | h) | h) | h
          · exact h.elim
          · exact h.elim
          · exact h.elim
          · simp only [itemB, decide_eq_false_iff_not]; omega
        rw [hv]; rfl
    rw [hz]
    exact ⟨0, 0, 0, [], false, rfl, rfl, fun h => (by cases h), fun _ => ⟨rfl, rfl, rfl, rfl⟩⟩
/-- Parts, one behind the other. -/
def GRun {β : Type} (T : List UInt8 × Int × Bool → Option (β × List UInt8 × Int × Bool)) (a : List UInt8) : Nat → Nat → Bool → List β → Nat → Bool → Prop
  | 0, p, b, ts, p', b' => ts = [] ∧ p' = p ∧ b' = b
  | n + 1, p, b, ts, p', b' => ∃ (t : β) (l : List β) (p1 : Nat) (b1 : Bool), ts = t :: l ∧ T (a, (p : Int), b) = some (t, a, (p1 : Int), b1) ∧ p1 ≤ a.length ∧ (b1 = false → b = false) ∧ GRun T a n p1 b1 l p' b'
theorem GRun.clear {β : Type} {T : List UInt8 × Int × Bool → Option (β × List UInt8 × Int × Bool)} {a : List UInt8} : ∀ {n p : Nat} {b : Bool} {ts : List β} {p' : Nat} {b' : Bool}, GRun T a n p b ts p' b' → b' = false → b = false
  | 0, _, _, _, _, _, h, h' => by rw [← h.2.2]; exact h'
  | n + 1, _, _, _, _, _, h, h' => by
    obtain ⟨t, l, p1, b1, _, _, _, h1, h2⟩ := h
    exact h1 (h2.clear h')
/-- An item's part: its text, what it reads as, whether it is right. -/
noncomputable def itS (x : List UInt8 × Int × Bool) : Option ((List UInt8 × ((Int × Int × Int × List UInt8) × Bool)) × List UInt8 × Int × Bool) :=
  (T_spec_l05ReadShort x).bind fun r => (T_spec_ReadItem r.1).bind fun m => some ((r.1, m), r.2)
noncomputable def itI (x : List UInt8 × Int × Bool) : Option ((List UInt8 × ((Int × Int × Int × List UInt8) × Bool)) × List UInt8 × Int × Bool) :=
  (T___impl_scanner__short x).bind fun r => (T_impl_ReadItem r.1).bind fun m => some ((r.1, m), r.2.1, r.2.2.1, r.2.2.2 || !m.2)
/-- What is true of a part that was read. -/
def ItOk (x : List UInt8 × ((Int × Int × Int × List UInt8) × Bool)) : Prop :=
  (x.2.2 = true → itemB x.2.1.1 x.2.1.2.1 x.2.1.2.2.1 x.2.1.2.2.2 = true ∧ itemT x.2.1.1 x.2.1.2.1 x.2.1.2.2.1 x.2.1.2.2.2 = x.1) ∧ (x.2.2 = false → x.2.1 = (0, 0, 0, []))
theorem item_step {a : List UInt8} {p q : Nat} {bs bi : Bool} (ha : a.length ≤ 4294967296) (hp : p ≤ a.length) (hq : q ≤ a.length) (hl : bi = false → bs = false ∧ q = p) :
    ∃ (t u : List UInt8 × ((Int × Int × Int × List UInt8) × Bool)) (p' q' : Nat) (bs' bi' : Bool), itS (a, (p : Int), bs) = some (t, a, (p' : Int), bs') ∧ itI (a, (q : Int), bi) = some (u, a, (q' : Int), bi') ∧ ItOk t ∧ ItOk u ∧ t.1.length ≤ a.length ∧ u.1.length ≤ a.length ∧
      Stp a p q bs bi p' q' bs' bi' (shT t.1) (u = t ∧ t.2.2 = true) (t.2.2 = false) := by
  obtain ⟨t, u, p1, q1, bs1, bi1, e1, e2, l1, l2, S⟩ := sh_step ha hp hq hl
  obtain ⟨k, d, l, z, ok, r1, r2, r3, r4⟩ := r_ReadItem (a := t) (by omega)
  obtain ⟨k', d', l', z', ok', r1', r2', r3', r4'⟩ := r_ReadItem (a := u) (by omega)
  refine ⟨(t, (k, d, l, z), ok), (u, (k', d', l', z'), ok'), p1, q1, bs1, bi1 || !ok', by simp only [itS, e1, Option.bind_some, r1], by simp only [itI, e2, Option.bind_some, r2'], ⟨r3, fun h => by obtain ⟨rfl, rfl, rfl, rfl⟩ := r4 h; rfl⟩, ⟨r3', fun h => by obtain ⟨rfl, rfl, rfl, rfl⟩ := r4' h; rfl⟩, l1, l2, S.hp, S.hq, fun h => ?_, S.rd, fun h1 h0 h2 => ?_⟩
  · simp only [Bool.or_eq_false_iff, Bool.not_eq_false'] at h
    obtain ⟨g1, g2, g3, g4, _⟩ := S.go h.1
    subst g4
    rw [r2] at r2'
    simp only [Option.some.injEq, Prod.mk.injEq] at r2'
    obtain ⟨⟨rfl, rfl, rfl, rfl⟩, rfl⟩ := r2'
    exact ⟨g1, g2, g3, rfl, h.2⟩
  · show ok = false
    cases hb : bi1 with
    | false =>
      obtain ⟨_, _, _, g4, _⟩ := S.go hb
      subst g4
      rw [r2] at r2'
      simp only [Option.some.injEq, Prod.mk.injEq] at r2'
      obtain ⟨_, rfl⟩ := r2'
      rw [hb] at h2
      simpa using h2
    | true =>
      have hlong := S.far h1 h0 hb
      cases hok : ok with
      | false => rfl
      | true =>
        obtain ⟨b1, b2⟩ := r3 hok
        simp only [itemB, decide_eq_true_eq] at b1
        have := congrArg List.length b2
        have v1 := vEnc_l5 (n := k.toNat) (by omega)
        have v2 := vEnc_l5 (n := z.length) (by omega)
        simp only [itemT, List.length_append, List.length_singleton] at this
        omega
theorem items_step {a : List UInt8} (ha : a.length ≤ 4294967296) : ∀ (n p q : Nat) (bs bi : Bool), p ≤ a.length → q ≤ a.length → (bi = false → bs = false ∧ q = p) →
    ∃ (ts us : List (List UInt8 × ((Int × Int × Int × List UInt8) × Bool))) (p' q' : Nat) (bs' bi' : Bool), GRun itS a n p bs ts p' bs' ∧ GRun itI a n q bi us q' bi' ∧ ts.length = n ∧ us.length = n ∧ (∀ t ∈ ts, ItOk t ∧ t.1.length ≤ a.length) ∧ (∀ t ∈ us, ItOk t ∧ t.1.length ≤ a.length) ∧
      Stp a p q bs bi p' q' bs' bi' (ts.flatMap fun t => shT t.1) (us = ts ∧ ∀ t ∈ ts, t.2.2 = true) (∃ t ∈ ts, t.2.2 = false)
  | 0, p, q, bs, bi, hp, hq, hl => ⟨[], [], p, q, bs, bi, ⟨rfl, rfl, rfl⟩, ⟨rfl, rfl, rfl⟩, rfl, rfl, by simp, by simp, hp, hq, fun h => ⟨h, (hl h).1, (hl h).2, rfl, by simp⟩, fun h => ⟨h, Rd.refl hp⟩, fun _ h1 h2 => by rw [h1] at h2; cases h2⟩
  | n + 1, p, q, bs, bi, hp, hq, hl => by
    obtain ⟨t, u, p1, q1, bs1, bi1, e1, e2, o1, o2, l1, l2, S⟩ := item_step ha hp hq hl
    obtain ⟨ts, us, p2, q2, bs2, bi2, r1, r2, g1, g2, g3, g4, S2⟩ := items_step ha n p1 q1 bs1 bi1 S.hp S.hq (fun h => ⟨(S.go h).2.1, (S.go h).2.2.1⟩)
    refine ⟨t :: ts, u :: us, p2, q2, bs2, bi2, ⟨t, ts, p1, bs1, rfl, e1, S.hp, fun h => (S.rd h).1, r1⟩, ⟨u, us, q1, bi1, rfl, e2, S.hq, fun h => (S.go h).1, r2⟩, by simp [g1], by simp [g2], ?_, ?_, (S.trans S2).mono ?_ ?_⟩
    · intro x hx
      rcases List.mem_cons.1 hx with rfl | hx
      · exact ⟨o1, l1⟩
      · exact g3 x hx
    · intro x hx
      rcases List.mem_cons.1 hx with rfl | hx
      · exact ⟨o2, l2⟩
      · exact g4 x hx
    · rintro ⟨⟨rfl, h1⟩, rfl, h2⟩
      refine ⟨rfl, fun x hx => ?_⟩
      rcases List.mem_cons.1 hx with rfl | hx
      · exact h1
      · exact h2 x hx
    · rintro (h | ⟨x, hx, h⟩)
      · exact ⟨t, by simp, h⟩
      · exact ⟨x, by simp [hx], h⟩
theorem fuel2 : fuel = 18446744073709551614 + 1 + 1 := rfl
theorem and255 (z : BitVec 64) : IntKind.i64.wrap (((z &&& BitVec.ofInt 64 255).toNat : Nat) : Int) = (((z &&& BitVec.ofInt 64 255).toNat : Nat) : Int) ∧ (z &&& BitVec.ofInt 64 255).toNat ≤ 255 := by
  have h : (z &&& BitVec.ofInt 64 255).toNat ≤ 255 := by
    rw [BitVec.toNat_and, show (BitVec.ofInt 64 255).toNat = 255 from rfl]
    exact Nat.and_le_right
  exact ⟨wrap_ok (by omega) (by omega), h⟩
/-- A drawn byte. -/
theorem x_Byte {a : List Int} {b c : Int} (ha : a.length ≤ 1048576) (hb : 0 ≤ b) : ∃ x b' c', T_spec_l01Byte (a, b, c) = some (x, a, b', c') ∧ 0 ≤ x ∧ x ≤ 255 ∧ 0 ≤ b' := by
  rw [e_T_spec_l01Byte]
  generalize IntKind.i64.wrap (IntKind.i64.wrap (c * 6364136223846793005) + 1442695040888963407) = h
  by_cases hlt : b < (a.length : Int)
  · have hy : a[b.toNat]? = some (a[b.toNat]'(by omega)) := List.getElem?_eq_getElem (by omega)
    simp only [hlt, decide_true, cond_true, hb, if_true, hy, Option.bind_some, Sum.elim_inl]
    refine ⟨_, _, _, rfl, ?_, ?_, ?_⟩
    · rw [(and255 _).1]; omega
    · rw [(and255 _).1]; have := (and255 (BitVec.ofInt 64 (IntKind.i64.wrap (IntKind.i64.wrap (((BitVec.ofInt 64 (IntKind.i64.wrap (((BitVec.ofInt 64 (h.fdiv (2 ^ 33)) ^^^ BitVec.ofInt 64 (h.fdiv (2 ^ 45))).toNat : Nat) : Int)) &&& BitVec.ofInt 64 255).toNat : Nat) : Int) + IntKind.i64.wrap a[b.toNat])))).2; omega
    · rw [wrap_ok (by omega) (by omega)]; omega
  · simp only [hlt, decide_false, cond_false, Option.bind_some, Sum.elim_inl]
    refine ⟨_, _, _, rfl, ?_, ?_, hb⟩
    · rw [(and255 _).1]; omega
    · rw [(and255 _).1]; have := (and255 (BitVec.ofInt 64 (IntKind.i64.wrap (((BitVec.ofInt 64 (h.fdiv (2 ^ 33)) ^^^ BitVec.ofInt 64 (h.fdiv (2 ^ 45))).toNat : Nat) : Int)))).2; omega
theorem x_Below {a : List Int} {b c n : Int} (ha : a.length ≤ 1048576) (hb : 0 ≤ b) (hn : n ≤ 256) : ∃ x b' c', T_spec_l01Below ((a, b, c), n) = some (x, a, b', c') ∧ 0 ≤ x ∧ (0 < n → x < n) ∧ x ≤ 255 ∧ 0 ≤ b' := by
  rw [e_T_spec_l01Below]
  by_cases h0 : n ≤ 0
  · exact ⟨0, b, c, by simp [h0], by omega, by omega, by omega, hb⟩
  · obtain ⟨x, b', c', h1, h2, h3, h4⟩ := x_Byte (c := c) ha hb
    refine ⟨x.tmod n, b', c', ?_, ?_, fun _ => ?_, ?_, h4⟩
    · simp only [h0, hn, decide_false, decide_true, cond_false, cond_true, h1, Option.bind_some, if_neg (show ¬ n = 0 by omega)]
    · exact Int.tmod_nonneg _ h2
    · exact Int.tmod_lt_of_pos _ (by omega)
    · have := Int.tmod_lt_of_pos x (show 0 < n by omega); omega
theorem x_Pick {a : List Int} {b c : Int} {l : List (List UInt8)} (ha : a.length ≤ 1048576) (hb : 0 ≤ b) (hl : 0 < l.length) (hl2 : l.length ≤ 256) : ∃ x b' c', T_spec_l01Pick ((a, b, c), l) = some (x, a, b', c') ∧ x ∈ l ∧ 0 ≤ b' := by
  obtain ⟨r, b', c', h1, h2, h3, _, h4⟩ := x_Below (c := c) (n := (l.length : Int)) ha hb (by omega)
  have hr : r.toNat < l.length := by have := h3 (by omega); omega
  refine ⟨l[r.toNat], b', c', ?_, List.getElem_mem hr, h4⟩
  rw [e_T_spec_l01Pick, h1]
  simp only [Option.bind_some, h2, if_true, List.getElem?_eq_getElem hr]
theorem x_PickInt {a : List Int} {b c : Int} {l : List Int} (ha : a.length ≤ 1048576) (hb : 0 ≤ b) (hl : 0 < l.length) (hl2 : l.length ≤ 256) : ∃ x b' c', T_spec_l01PickInt ((a, b, c), l) = some (x, a, b', c') ∧ x ∈ l ∧ 0 ≤ b' := by
  obtain ⟨r, b', c', h1, h2, h3, _, h4⟩ := x_Below (c := c) (n := (l.length : Int)) ha hb (by omega)
  have hr : r.toNat < l.length := by have := h3 (by omega); omega
  refine ⟨l[r.toNat], b', c', ?_, List.getElem_mem hr, h4⟩
  rw [e_T_spec_l01PickInt, h1]
  simp only [Option.bind_some, h2, if_true, List.getElem?_eq_getElem hr]
theorem l_New {a : List Int} (ha : a.length ≤ 1048576) : ∀ (m i n : Nat) (h : Int), m < n → i + m = min a.length 4000 → ∃ h', L_spec_l01New_1 n (a, h, (i : Int)) = some (.inl (a, h'))
  | 0, i, n, h, hn, hi => by
    obtain ⟨n, rfl⟩ : ∃ j, n = j + 1 := ⟨n - 1, by omega⟩
    rw [e_L_spec_l01New_1]
    by_cases h1 : (i : Int) < (a.length : Int)
    · exact ⟨h, by simp only [h1, show ¬ (i : Int) < 4000 by omega, decide_true, decide_false, cond_true, cond_false, Option.bind_some, Sum.elim_inl]⟩
    · exact ⟨h, by simp only [h1, decide_false, cond_false, Option.bind_some, Sum.elim_inl]⟩
  | m + 1, i, n, h, hn, hi => by
    obtain ⟨n, rfl⟩ : ∃ j, n = j + 1 := ⟨n - 1, by omega⟩
    rw [e_L_spec_l01New_1]
    have hy : a[i]? = some (a[i]'(by omega)) := List.getElem?_eq_getElem (by omega)
    simp only [show (i : Int) < (a.length : Int) by omega, show (i : Int) < 4000 by omega, decide_true, cond_true, Option.bind_some, Sum.elim_inl, Int.natCast_nonneg, if_true, Int.toNat_natCast, hy]
    rw [wrap_ok (n := (i : Int) + 1) (by omega) (by omega)]
    exact l_New ha m (i + 1) n _ (by omega) (by omega)
theorem x_New {a : List Int} (ha : a.length ≤ 1048576) : ∃ h, T_spec_l01New a = some (a, 0, h) := by
  obtain ⟨h, h1⟩ := l_New ha (min a.length 4000) 0 fuel (IntKind.i64.wrap (27101 + (a.length : Int))) (by simp only [fuel]; omega) (by omega)
  refine ⟨h, ?_⟩
  rw [e_T_spec_l01New]
  rw [show ((0 : Nat) : Int) = (0 : Int) from rfl] at h1
  rw [h1]; rfl
theorem l_Text {a : List Int} (ha : a.length ≤ 1048576) {d : Nat} (hd : d ≤ 5000) : ∀ (m i n : Nat) (b c : Int) (e : List Int), m < n → i + m = d → 0 ≤ b → e.length = i → ∃ b' c' e', L_spec_l01Text_1 n ((a, b, c), (d : Int), e, (i : Int)) = some (.inl ((a, b', c'), e')) ∧ 0 ≤ b' ∧ e'.length = d
  | 0, i, n, b, c, e, hn, hi, hb, he => by
    obtain ⟨n, rfl⟩ : ∃ j, n = j + 1 := ⟨n - 1, by omega⟩
    rw [e_L_spec_l01Text_1, decide_eq_false (by omega)]
    exact ⟨b, c, e, rfl, hb, by omega⟩
  | m + 1, i, n, b, c, e, hn, hi, hb, he => by
    obtain ⟨n, rfl⟩ : ∃ j, n = j + 1 := ⟨n - 1, by omega⟩
    obtain ⟨x, b', c', h1, _, _, h4⟩ := x_Byte (c := c) ha hb
    rw [e_L_spec_l01Text_1, decide_eq_true (by omega), cond_true, h1, Option.bind_some]
    simp only [List.length_singleton]
    rw [if_pos ⟨by omega, by omega⟩, wrap_ok (by omega) (by omega)]
    exact l_Text ha hd m (i + 1) n b' c' _ (by omega) (by omega) h4 (by simp [he])
theorem x_Text {a : List Int} {b c : Int} {d : Nat} (ha : a.length ≤ 1048576) (hb : 0 ≤ b) (hd : d ≤ 5000) : ∃ s b' c', T_spec_l01Text ((a, b, c), (d : Int)) = some (s, a, b', c') ∧ s.length = d ∧ 0 ≤ b' := by
  obtain ⟨b', c', e', h1, h2, h3⟩ := l_Text ha hd d 0 fuel b c [] (by simp only [fuel]; omega) (by omega) hb rfl
  rw [show ((0 : Nat) : Int) = (0 : Int) from rfl] at h1
  refine ⟨List.map (fun (n : (ET.int IntKind.u8).den) => UInt8.ofNat (Int.toNat n)) e', b', c', ?_, ?_, h2⟩
  · rw [e_T_spec_l01Text, decide_eq_false (by omega)]
    simp only [cond_false, Option.bind_some, Sum.elim_inl, h1]
  · rw [List.length_map]; exact h3
theorem l_Long {n x : Int} : ∀ (m i k : Nat) (c : List Int), m < k → (i : Int) + m = n → (c.length : Int) = n → n ≤ 1000000 → ∃ c', L_spec_l01Long_1 k (n, x, c, (i : Int)) = some (.inl c') ∧ c'.length = c.length
  | 0, i, k, c, hk, hi, hc, hn => by
    obtain ⟨k, rfl⟩ : ∃ j, k = j + 1 := ⟨k - 1, by omega⟩
    rw [e_L_spec_l01Long_1, decide_eq_false (by omega)]
    exact ⟨c, rfl, rfl⟩
  | m + 1, i, k, c, hk, hi, hc, hn => by
    obtain ⟨k, rfl⟩ : ∃ j, k = j + 1 := ⟨k - 1, by omega⟩
    have hy : c[i]? = some (c[i]'(by omega)) := List.getElem?_eq_getElem (by omega)
    rw [e_L_spec_l01Long_1, decide_eq_true (by omega), cond_true]
    simp only [Int.natCast_nonneg, if_true, Int.toNat_natCast, hy, Option.bind_some, show i < c.length by omega]
    rw [wrap_ok (by omega) (by omega)]
    obtain ⟨c', h1, h2⟩ := l_Long (x := x) m (i + 1) k (c.set i x) (by omega) (by omega) (by simpa using hc) hn
    exact ⟨c', h1, by rw [h2]; simp⟩
theorem x_Long {n x : Int} (h0 : 0 ≤ n) (hn : n ≤ 1000000) : ∃ s, T_spec_l01Long (n, x) = some s ∧ (s.length : Int) = n := by
  obtain ⟨c, h1, h2⟩ := l_Long (x := x) n.toNat 0 fuel (List.replicate n.toNat 0) (by simp only [fuel]; omega) (by omega) (by simp; omega) hn
  rw [show ((0 : Nat) : Int) = (0 : Int) from rfl] at h1
  refine ⟨List.map (fun (n : (ET.int IntKind.u8).den) => UInt8.ofNat (Int.toNat n)) c, ?_, ?_⟩
  · rw [e_T_spec_l01Long, if_pos ⟨h0, rfl, by omega, by omega⟩, h1]; rfl
  · rw [List.length_map, h2]; simp; omega
theorem x_BelowA {a : List Int} {b c n : Int} (ha : a.length ≤ 1048576) (hb : 0 ≤ b) (hn : n ≤ 4294967296) : ∃ x b' c', T_spec_l01Below ((a, b, c), n) = some (x, a, b', c') ∧ 0 ≤ x ∧ (0 < n → x < n) ∧ True ∧ 0 ≤ b' := by
  by_cases hs : n ≤ 256
  · obtain ⟨x, b', c', h1, h2, h3, _, h4⟩ := x_Below (c := c) ha hb hs
    exact ⟨x, b', c', h1, h2, h3, trivial, h4⟩
  · obtain ⟨x1, b1, c1, g1, p1, q1, r1⟩ := x_Byte (c := c) ha hb
    obtain ⟨x2, b2, c2, g2, p2, q2, r2⟩ := x_Byte (c := c1) ha r1
    obtain ⟨x3, b3, c3, g3, p3, q3, r3⟩ := x_Byte (c := c2) ha r2
    obtain ⟨x4, b4, c4, g4, p4, q4, r4⟩ := x_Byte (c := c3) ha r3
    rw [e_T_spec_l01Below, decide_eq_false (show ¬ n ≤ 0 by omega), decide_eq_false hs]
    simp only [cond_false, g1, g2, g3, g4, Option.bind_some, if_neg (show ¬ n = 0 by omega)]
    rw [wrap_ok (n := x1 * 16777216) (by omega) (by omega), wrap_ok (n := x2 * 65536) (by omega) (by omega), wrap_ok (n := x1 * 16777216 + x2 * 65536) (by omega) (by omega), wrap_ok (n := x3 * 256) (by omega) (by omega), wrap_ok (n := x1 * 16777216 + x2 * 65536 + x3 * 256) (by omega) (by omega), wrap_ok (n := x1 * 16777216 + x2 * 65536 + x3 * 256 + x4) (by omega) (by omega)]
    exact ⟨_, b4, c4, rfl, Int.tmod_nonneg _ (by omega), fun _ => Int.tmod_lt_of_pos _ (by omega), trivial, r4⟩
theorem x_SpoiltA {a : List Int} {b c : Int} {d : List UInt8} {m : Nat} (ha : a.length ≤ 1048576) (hb : 0 ≤ b) (hd : d.length ≤ m) (hm : m ≤ 100000) : ∃ s b' c', T_spec_l02Spoilt ((a, b, c), d) = some (s, a, b', c') ∧ s.length ≤ m + 1 ∧ 0 ≤ b' := by
  rw [e_T_spec_l02Spoilt]
  obtain ⟨r, b1, c1, h1, h2, h3, _, h4⟩ := x_Below (c := c) (n := 12) ha hb (by omega)
  rw [h1]
  simp only [Option.bind_some]
  obtain ⟨t, b2, c2, g1, g2, g3⟩ := x_Text (c := c1) (d := 1) ha h4 (by omega)
  rw [show ((1 : Nat) : Int) = (1 : Int) from rfl] at g1
  cases r == 0 with
  | true =>
    simp only [cond_true, g1, Option.bind_some]
    rw [if_neg (by omega)]
    exact ⟨_, b2, c2, rfl, by rw [List.length_append]; omega, g3⟩
  | false =>
    cases r == 1 with
    | true =>
      obtain ⟨q, b3, c3, k1, k2, k3, _, k4⟩ := x_BelowA (c := c1) (n := (d.length : Int) + 1) ha h4 (by omega)
      have hq := k3 (by omega)
      rw [wrap_ok (n := (d.length : Int) + 1) (by omega) (by omega)]
      simp only [cond_true, cond_false, k1, Option.bind_some]
      rw [if_pos ⟨k2, by omega⟩]
      exact ⟨_, b3, c3, rfl, by rw [List.drop_zero, List.length_take]; omega, k4⟩
    | false =>
      have hflag : ∃ fl : Bool, (bif r == 2 then some (Sum.inl ((a, b1, c1), d, true)) else some (Sum.inl ((a, b1, c1), d, r == 3))) = (some (Sum.inl ((a, b1, c1), d, fl)) : Option (((List Int × Int × Int) × List UInt8 × Bool) ⊕ (((List Int × Int × Int) × List UInt8) ⊕ (List UInt8 × List Int × Int × Int)))) := by
        cases r == 2
        · exact ⟨_, rfl⟩
        · exact ⟨_, rfl⟩
      obtain ⟨fl, hfl⟩ := hflag
      simp only [cond_false]
      rw [hfl]
      simp only [Option.bind_some, Sum.elim_inl]
      cases fl with
      | false => exact ⟨d, b1, c1, rfl, by omega, h4⟩
      | true =>
        by_cases hd0 : 0 < (d.length : Int)
        · obtain ⟨q, b3, c3, k1, k2, k3, _, k4⟩ := x_BelowA (c := c1) (n := (d.length : Int)) ha h4 (by omega)
          have hq := k3 hd0
          obtain ⟨u, b4, c4, m1, m2, m3⟩ := x_Text (c := c3) (d := 1) ha k4 (by omega)
          rw [show ((1 : Nat) : Int) = (1 : Int) from rfl] at m1
          simp only [cond_true, decide_eq_true hd0, k1, Option.bind_some]
          rw [if_pos ⟨k2, by omega⟩, m1]
          simp only [Option.bind_some]
          rw [if_neg (by simp only [List.drop_zero, List.length_take]; omega), wrap_ok (n := q + 1) (by omega) (by omega), if_pos ⟨by omega, by omega⟩,
            if_neg (by simp only [List.drop_zero, List.length_append, List.length_drop, List.length_take]; omega)]
          simp only [Option.bind_some, Sum.elim_inr]
          exact ⟨_, b4, c4, rfl, by simp only [List.drop_zero, List.length_append, List.length_drop, List.length_take]; omega, m3⟩
        · simp only [cond_true, decide_eq_false hd0, cond_false, Option.bind_some, Sum.elim_inl]
          exact ⟨d, b1, c1, rfl, by omega, h4⟩
theorem x_Spoilt {a : List Int} {b c : Int} {d : List UInt8} (ha : a.length ≤ 1048576) (hb : 0 ≤ b) (hd : d.length ≤ 250) : ∃ s b' c', T_spec_l02Spoilt ((a, b, c), d) = some (s, a, b', c') ∧ s.length ≤ 251 ∧ 0 ≤ b' := x_SpoiltA ha hb hd (by omega)
theorem x_Once {a : List Int} {b c n : Int} (ha : a.length ≤ 1048576) (hb : 0 ≤ b) (hn : n ≤ 256) : ∃ x b' c', T_spec_l01Once ((a, b, c), n) = some (x, a, b', c') ∧ 0 ≤ b' := by
  obtain ⟨r, b', c', h1, _, _, _, h4⟩ := x_Below (c := c) (n := n) ha hb hn
  exact ⟨_, b', c', by rw [e_T_spec_l01Once, h1]; rfl, h4⟩
theorem l_varI : ∀ (k n : Nat) (b : List Int), k < n → b.length + k ≤ 4294967296 → ∃ (k' : Nat) (b' : List Int), L_impl_varText_1 n ((k : Int), b) = some (.inl ((k' : Int), b')) ∧ k' ≤ 127 ∧ b'.length ≤ b.length + k ∧ b'.map (fun x => UInt8.ofNat x.toNat) ++ [UInt8.ofNat k'] = b.map (fun x => UInt8.ofNat x.toNat) ++ vEnc k := by
  intro k
  induction k using Nat.strongRecOn with
  | _ k ih =>
    intro n b hn hb
    obtain ⟨m, rfl⟩ : ∃ m, n = m + 1 := ⟨n - 1, by omega⟩
    rw [e_L_impl_varText_1]
    by_cases h : 127 < k
    · have h1 : (127 : Int) < (k : Int) := by omega
      have e1 : IntKind.i64.wrap (128 + (k : Int).tmod 128) = ((k % 128 + 128 : Nat) : Int) := by
        rw [Int.tmod_eq_emod_of_nonneg (by omega), wrap_ok (by omega) (by omega)]; omega
      have e2 : IntKind.i64.wrap ((k : Int).tdiv 128) = ((k / 128 : Nat) : Int) := by
        rw [Int.tdiv_eq_ediv_of_nonneg (by omega), wrap_ok (by omega) (by omega)]; omega
      simp only [h1, decide_true, cond_true, e1, e2, List.length_singleton]
      rw [if_pos (by omega), u8w (by omega) (by omega)]
      obtain ⟨k', b', h2, h3, h4, h5⟩ := ih (k / 128) (by omega) m (b.append [((k % 128 + 128 : Nat) : Int)]) (by omega) (by simp; omega)
      refine ⟨k', b', h2, h3, by simp at h4; omega, ?_⟩
      rw [h5, vEnc_hi h]
      simp only [List.append_eq, List.map_append, List.map_cons, List.map_nil, Int.toNat_natCast, List.append_assoc, List.cons_append, List.nil_append]
    · have h1 : ¬ (127 : Int) < (k : Int) := by omega
      simp only [h1, decide_false, cond_false]
      exact ⟨k, b, rfl, by omega, by omega, by rw [vEnc_lo (by omega)]⟩
theorem v_varText {a : Int} (h0 : 0 ≤ a) (h1 : a ≤ 2147483648) : T_impl_varText a = some (vEnc a.toNat) := by
  obtain ⟨k, rfl⟩ : ∃ k : Nat, a = (k : Int) := ⟨a.toNat, by omega⟩
  rw [e_T_impl_varText]
  obtain ⟨k', b', h2, h3, h4, h5⟩ := l_varI k fuel [] (by simp only [fuel]; omega) (by simp; omega)
  rw [h2]
  simp only [Option.bind_some, Sum.elim_inl, List.length_singleton]
  simp at h4
  rw [if_pos (by omega), u8w (by omega) (by omega)]
  simp only [List.map_nil, List.nil_append] at h5
  simp only [Option.some.injEq, Int.toNat_natCast]
  rw [← h5]
  simp
theorem v_octets {l : List Int} (hl : l.length ≤ 1048576) (h : ∀ x ∈ l, 0 ≤ x ∧ x < 256) : T_impl_octets l = some (l.map fun x => UInt8.ofNat x.toNat) := by
  obtain ⟨s, h1, h2⟩ := loop_all (L := L_impl_octets_1) l (fun s i => (s, l, (l.length : Int), i)) (fun s => s) (fun i s => s = l.take i) (fun i y s hy hi hI => ⟨l.take (i + 1), rfl, fun n => by
    have hyv := h y (List.mem_of_getElem? hy)
    subst hI
    rw [e_L_impl_octets_1, take_succ' hy]
    simp only [show ((i : Int) < (l.length : Int)) by omega, decide_true, cond_true, Int.natCast_nonneg, if_true, Int.toNat_natCast, hy, Option.bind_some, List.length_take, List.length_cons, List.length_nil]
    rw [if_pos ⟨by omega, by omega⟩, u8w hyv.1 hyv.2, wrap_ok (by omega) (by omega)]
    rfl⟩) (fun n s _ => by rw [e_L_impl_octets_1]; simp) (by rw [maxLen_eq]; omega) [] rfl
  rw [e_T_impl_octets, h2, h1]
  simp only [Option.bind_some, Sum.elim_inl, List.take_length]
theorem v_shortText {t : List UInt8} (h : t.length ≤ 1048576) : T_impl_shortText t = some (vEnc t.length ++ t) := by
  have := vEnc_len t.length
  rw [e_T_impl_shortText, v_varText (by omega) (by omega), Option.bind_some, Int.toNat_natCast, if_neg (by omega)]
theorem v_write {s t : List UInt8} (h : s.length + t.length ≤ 140737488355328) : T___strings_Builder__WriteString (s, t) = some ((t.length : Int), (), s ++ t) := by
  rw [T___strings_Builder__WriteString, if_pos h]
theorem v_string {s : List UInt8} (h : s ≠ []) : T___strings_Builder__String s = some s := by
  rw [T___strings_Builder__String]
  cases s with
  | nil => exact absurd rfl h
  | cons x s => rfl
theorem x_Of {a : List Int} {b c n : Int} (ha : a.length ≤ 1048576) (hb : 0 ≤ b) : ∃ k d l t b' c', T_spec_l05Of ((a, b, c), n) = some ((k, d, l, t), a, b', c') ∧ t.length ≤ 3 ∧ 0 ≤ b' := by
  rw [e_T_spec_l05Of]
  obtain ⟨r, b1, c1, h1, _, _, _, h4⟩ := x_Below (c := c) (n := 2) ha hb (by omega)
  rw [h1, Option.bind_some]
  obtain ⟨t, b2, c2, g1, g2, g3⟩ := x_Pick (c := c1) (l := [[], [120], [121, 121], [122, 122, 122]]) ha h4 (by decide) (by decide)
  have g1' : T_spec_l01Pick ((a, b1, c1), [[], [{ toBitVec := { toFin := ⟨120, Nat.mod_lt 120 (BitVec.ofNat._proof_1 8)⟩ } }], [{ toBitVec := { toFin := ⟨121, Nat.mod_lt 121 (BitVec.ofNat._proof_1 8)⟩ } }, { toBitVec := { toFin := ⟨121, Nat.mod_lt 121 (BitVec.ofNat._proof_1 8)⟩ } }], [{ toBitVec := { toFin := ⟨122, Nat.mod_lt 122 (BitVec.ofNat._proof_1 8)⟩ } }, { toBitVec := { toFin := ⟨122, Nat.mod_lt 122 (BitVec.ofNat._proof_1 8)⟩ } }, { toBitVec := { toFin := ⟨122, Nat.mod_lt 122 (BitVec.ofNat._proof_1 8)⟩ } }]]) = some (t, a, b2, c2) := g1
  rw [g1', Option.bind_some]
  refine ⟨_, _, _, t, b2, c2, rfl, ?_, g3⟩
  rcases List.mem_cons.1 g2 with rfl | g2
  · decide
  rcases List.mem_cons.1 g2 with rfl | g2
  · decide
  rcases List.mem_cons.1 g2 with rfl | g2
  · decide
  · rw [List.mem_singleton.1 g2]; decide
theorem x_AnyItem {a : List Int} {b c : Int} (ha : a.length ≤ 1048576) (hb : 0 ≤ b) : ∃ k d l t b' c', T_spec_l05AnyItem (a, b, c) = some ((k, d, l, t), a, b', c') ∧ t.length ≤ 61 ∧ 0 ≤ b' := by
  rw [e_T_spec_l05AnyItem]
  obtain ⟨r, b1, c1, h1, _, _, _, h4⟩ := x_Below (c := c) (n := 12) ha hb (by omega)
  rw [h1, Option.bind_some]
  obtain ⟨k, d, l, t, b2, c2, g1, g2, g3⟩ := x_Of (c := c1) (n := IntKind.i64.wrap (1 + r)) ha h4
  simp only
  rw [g1, Option.bind_some]
  obtain ⟨q, b3, c3, k1, _, _, _, k4⟩ := x_Below (c := c2) (n := 16) ha g3 (by omega)
  simp only
  rw [k1, Option.bind_some]
  cases q == 0 with
  | true =>
    obtain ⟨y, b4, c4, m1, _, m3⟩ := x_PickInt (c := c3) (l := [Int.ofNat 0, Int.negSucc 0, Int.ofNat 60, Int.ofNat 61]) ha k4 (by decide) (by decide)
    simp only [cond_true, m1, Option.bind_some, Sum.elim_inl]
    exact ⟨_, _, _, _, b4, c4, rfl, by omega, m3⟩
  | false =>
    cases q == 1 with
    | true =>
      obtain ⟨y, b4, c4, m1, _, m3⟩ := x_PickInt (c := c3) (l := [Int.ofNat 0, Int.ofNat 5, Int.ofNat 6]) ha k4 (by decide) (by decide)
      simp only [cond_true, cond_false, m1, Option.bind_some, Sum.elim_inl]
      exact ⟨_, _, _, _, b4, c4, rfl, by omega, m3⟩
    | false =>
      cases q == 2 with
      | true =>
        obtain ⟨y, b4, c4, m1, _, m3⟩ := x_PickInt (c := c3) (l := [Int.ofNat 0, Int.ofNat 3]) ha k4 (by decide) (by decide)
        simp only [cond_true, cond_false, m1, Option.bind_some, Sum.elim_inl]
        exact ⟨_, _, _, _, b4, c4, rfl, by omega, m3⟩
      | false =>
        cases q == 3 with
        | true =>
          obtain ⟨y, b4, c4, m1, m2, m2', _, m3⟩ := x_Below (c := c3) (n := 2) ha k4 (by omega)
          have hy := m2' (by omega)
          obtain ⟨s, s1, s2⟩ := x_Long (n := 60 + y) (x := 65) (by omega) (by omega)
          simp only [cond_true, cond_false, m1, Option.bind_some, wrap_ok (n := 60 + y) (by omega) (by omega), s1, Sum.elim_inl]
          exact ⟨_, _, _, _, b4, c4, rfl, by omega, m3⟩
        | false =>
          simp only [cond_false, Option.bind_some, Sum.elim_inl]
          exact ⟨_, _, _, _, b3, c3, rfl, by omega, k4⟩
theorem itemT_len {k d l : Int} {t : List UInt8} (h : itemB k d l t = true) : (itemT k d l t).length ≤ 80 := by
  simp only [itemB, decide_eq_true_eq] at h
  have v1 := vEnc_l5 (n := k.toNat) (by omega)
  have v2 := vEnc_l5 (n := t.length) (by omega)
  simp only [itemT, List.length_append, List.length_singleton]
  omega
theorem v_varSmall {n : Nat} (h : n ≤ 127) : T_impl_varText (n : Int) = some (vEnc n) := by
  rw [e_T_impl_varText, fuel2, e_L_impl_varText_1, decide_eq_false (by omega), vEnc_lo h]
  simp only [cond_false, Option.bind_some, Sum.elim_inl, List.length_nil, List.length_singleton]
  rw [if_pos ⟨by omega, by omega⟩, u8w (by omega) (by omega)]
  rfl
theorem v_octets2 {d l : Nat} (hd : d < 256) (hl : l < 256) : T_impl_octets [(d : Int), (l : Int)] = some [UInt8.ofNat d, UInt8.ofNat l] := by
  obtain ⟨s, h1, h2⟩ := loop_all (L := L_impl_octets_1) [(d : Int), (l : Int)] (fun s i => (s, [(d : Int), (l : Int)], 2, i)) (fun s => s) (fun i s => s = ([(d : Int), (l : Int)]).take i) (fun i y s hy hi hI => ⟨([(d : Int), (l : Int)]).take (i + 1), rfl, fun n => by
    have hyv : 0 ≤ y ∧ y < 256 := by
      have hm := List.mem_of_getElem? hy
      rcases List.mem_cons.1 hm with rfl | hm
      · omega
      · rw [List.mem_singleton.1 hm]; omega
    have hi' : i < 2 := hi
    subst hI
    rw [e_L_impl_octets_1, take_succ' hy]
    simp only [show ((i : Int) < 2) by omega, decide_true, cond_true, Int.natCast_nonneg, if_true, Int.toNat_natCast, hy, Option.bind_some, List.length_take, List.length_cons, List.length_nil]
    rw [if_pos ⟨by omega, by omega⟩, u8w hyv.1 hyv.2, wrap_ok (by omega) (by omega)]
    rfl⟩) (fun n s _ => by rw [e_L_impl_octets_1]; simp) (by rw [maxLen_eq]; simp) [] rfl
  rw [e_T_impl_octets]
  show (L_impl_octets_1 fuel ([], [(d : Int), (l : Int)], 2, 0)).bind _ = _
  rw [h2, h1]
  rfl
theorem rv_small {c : UInt8} {t : List UInt8} (h : c.toNat < 128) : rvS 5 0 0 1 (c :: t) = some (c.toNat, 1) := by
  simp only [rvS]
  rw [if_pos h, if_neg (by omega)]
  simp
theorem fwd_item {k d l : Int} {t : List UInt8} (h : itemB k d l t = true) : T_impl_ReadItem (itemT k d l t) = some ((k, d, l, t), true) := by
  have hB := h
  simp only [itemB, decide_eq_true_eq] at h
  obtain ⟨⟨h1, h1'⟩, ⟨h2, h2'⟩, ⟨h3, h3'⟩, h4⟩ := h
  obtain ⟨kn, rfl⟩ : ∃ n : Nat, k = (n : Int) := ⟨k.toNat, by omega⟩
  obtain ⟨dn, rfl⟩ : ∃ n : Nat, d = (n : Int) := ⟨d.toNat, by omega⟩
  obtain ⟨ln, rfl⟩ : ∃ n : Nat, l = (n : Int) := ⟨l.toNat, by omega⟩
  have nat : ∀ {n : Nat}, n < 128 → (UInt8.ofNat n).toNat = n := fun h => by simp; omega
  have hT : itemT (kn : Int) (dn : Int) (ln : Int) t = UInt8.ofNat kn :: UInt8.ofNat dn :: UInt8.ofNat ln :: UInt8.ofNat t.length :: t := by
    simp only [itemT, Int.toNat_natCast, vEnc_lo (n := kn) (by omega), vEnc_lo (n := t.length) (by omega), List.cons_append, List.nil_append]
  have hl : (itemT (kn : Int) (dn : Int) (ln : Int) t).length = t.length + 4 := by rw [hT]; simp
  have ha : (itemT (kn : Int) (dn : Int) (ln : Int) t).length ≤ 4294967296 := by omega
  generalize hA : itemT (kn : Int) (dn : Int) (ln : Int) t = A at *
  have n1 : numR A 0 false = ((kn : Int), A, ((1 : Nat) : Int), false) := by
    unfold numR
    rw [List.drop_zero, hT, rv_small (by rw [nat (by omega)]; omega), nat (by omega)]
    rfl
  have o1 : oneR A 1 false = ((dn : Int), A, ((2 : Nat) : Int), false) := by
    unfold oneR
    rw [hT]
    simp only [List.drop_succ_cons, List.drop_zero, cond_false, nat (n := dn) (by omega)]
  have o2 : oneR A 2 false = ((ln : Int), A, ((3 : Nat) : Int), false) := by
    unfold oneR
    rw [hT]
    simp only [List.drop_succ_cons, List.drop_zero, cond_false, nat (n := ln) (by omega)]
  have s1 : shR 20000 A 3 false = (t, A, ((t.length + 4 : Nat) : Int), false) := by
    unfold shR
    have hd : A.drop 3 = UInt8.ofNat t.length :: t := by rw [hT]; rfl
    have hd4 : A.drop 4 = t := by rw [hT]; rfl
    rw [hd, rv_small (by rw [nat (by omega)]; omega), nat (by omega)]
    simp only [cond_false, takR, hd4, show ¬ 20000 < t.length by omega, decide_false, Bool.false_or, show ¬ A.length - (3 + 1) < t.length by omega, List.take_length]
    rw [show 3 + 1 + t.length = t.length + 4 by omega]
  rw [e_T_impl_ReadItem, show (0 : Int) = ((0 : Nat) : Int) from rfl, n_impl (Nat.zero_le _) ha, n1]
  simp only [Option.bind_some]
  rw [o_impl (by omega) ha, o1]
  simp only [Option.bind_some]
  rw [o_impl (by omega) ha, o2]
  simp only [Option.bind_some]
  rw [s_impl (by omega) ha, s1]
  simp only [Option.bind_some, e_T___impl_scanner__done, (x_ItemOk _ _ _ _).2, hB, Bool.not_false, cond_true, hl, beq_self_eq_true, Bool.not_true, cond_false, Sum.elim_inl]
abbrev ItemT := Int × Int × Int × List UInt8
def itB (m : ItemT) : Bool := itemB m.1 m.2.1 m.2.2.1 m.2.2.2
def itT (m : ItemT) : List UInt8 := itemT m.1 m.2.1 m.2.2.1 m.2.2.2
/-- A step along items: right, and above the one ahead. -/
def imS (l : List ItemT) (i : Nat) (y : ItemT) (_ : Unit) : Option (Unit ⊕ Bool) :=
  bif !itB y then some (.inr false) else bif decide (0 < i) then (l[i - 1]?).bind fun z => some (bif decide (y.1 ≤ z.1) then .inr false else .inl ()) else some (.inl ())
theorem each_im (l : List ItemT) (h : l.length ≤ maxLen) : (each (imS l) 0 l () = some (.inl ()) ∧ l.length ≤ 60 ∧ ∀ y ∈ l, itB y = true) ∨ each (imS l) 0 l () = some (.inr false) := by
  rcases each_rule (step := imS l) (fun k _ => ∀ i y, i < k → l[i]? = some y → itB y = true ∧ (i : Int) + 1 ≤ y.1) (fun r => r = false) l 0 () (fun i y h => by omega) (fun i y s hy hI => by
    rw [Nat.zero_add] at hI
    simp only [imS, Nat.zero_add]
    cases hb : itB y with
    | false => exact .inr ⟨false, rfl, rfl⟩
    | true =>
      simp only [Bool.not_true, cond_false]
      have hB := hb
      simp only [itB, itemB, decide_eq_true_eq] at hB
      by_cases h0 : 0 < i
      · have hi := (List.getElem?_eq_some_iff.1 hy).1
        have hz : l[i - 1]? = some l[i - 1] := List.getElem?_eq_getElem (by omega)
        rw [decide_eq_true h0, cond_true, hz, Option.bind_some]
        by_cases hlt : y.1 ≤ l[i - 1].1
        · rw [decide_eq_true hlt]; exact .inr ⟨false, rfl, rfl⟩
        · rw [decide_eq_false hlt]
          refine .inl ⟨(), rfl, fun j z hj hz' => ?_⟩
          by_cases hji : j = i
          · subst hji; rw [hy] at hz'; cases hz'
            have := (hI (j - 1) _ (by omega) hz).2
            exact ⟨hb, by omega⟩
          · exact hI j z (by omega) hz'
      · rw [decide_eq_false h0]
        refine .inl ⟨(), rfl, fun j z hj hz' => ?_⟩
        obtain rfl : j = 0 := by omega
        obtain rfl : i = 0 := by omega
        rw [hy] at hz'; cases hz'
        exact ⟨hb, by omega⟩) with ⟨s, h1, h2⟩ | ⟨r, h1, rfl⟩
  · refine .inl ⟨h1, ?_, fun y hy => ?_⟩
    · apply Nat.le_of_not_lt
      intro h60
      have h3 := h2 60 l[60] (by omega) (List.getElem?_eq_getElem (by omega))
      have h4 := h3.1
      simp only [itB, itemB, decide_eq_true_eq] at h4
      omega
    · obtain ⟨i, hi⟩ := List.getElem?_of_mem hy
      exact (h2 i y (by have := (List.getElem?_eq_some_iff.1 hi).1; omega) hi).1
  · exact .inr h1
theorem l_specI {a : List ItemT} (h : a.length ≤ 1048576) : L_spec_ItemsOk_1 fuel (a, 0) = each (imS a) 0 a () := by
  rw [each_loop (L := L_spec_ItemsOk_1) a (fun (_ : Unit) g => (a, g)) (fun _ => ()) (imS a) (fun n t i y hy => ?_) (fun n s => by rw [e_L_spec_ItemsOk_1]; simp) (by rw [maxLen_eq]; omega) ()]
  · cases each (imS a) 0 a () with
    | none => rfl
    | some q => cases q <;> rfl
  · have hlt := (List.getElem?_eq_some_iff.1 hy).1
    rw [e_L_spec_ItemsOk_1]
    simp only [show ((i : Int) < (a.length : Int)) by omega, decide_true, cond_true, Int.natCast_nonneg, if_true, Int.toNat_natCast, hy, Option.bind_some, wrap_ok (n := (i : Int) + 1) (by omega) (by omega), imS, (x_ItemOk _ _ _ _).1, itB]
    cases itemB y.1 y.2.1 y.2.2.1 y.2.2.2
    · rfl
    · by_cases h0 : 0 < i
      · have e1 : IntKind.i64.wrap ((i : Int) - 1) = ((i - 1 : Nat) : Int) := by rw [wrap_ok (by omega) (by omega)]; omega
        simp only [Bool.not_true, cond_false, show (0 : Int) < (i : Int) by omega, decide_true, cond_true, e1, Int.natCast_nonneg, if_true, Int.toNat_natCast, h0, List.getElem?_eq_getElem (show i - 1 < a.length by omega), Option.bind_some, Sum.elim_inl]
        cases decide (y.1 ≤ a[i - 1].1) <;> simp only [cond_true, cond_false, Option.bind_some, Sum.elim_inl, Sum.elim_inr, wrap_ok (n := (i : Int) + 1) (by omega) (by omega)]
      · simp only [Bool.not_true, cond_false, show ¬ (0 : Int) < (i : Int) by omega, decide_false, h0, Option.bind_some, Sum.elim_inl, wrap_ok (n := (i : Int) + 1) (by omega) (by omega)]
theorem l_implI {a : List ItemT} (h : a.length ≤ 1048576) : L_impl_ItemsOk_1 fuel (a, a, (a.length : Int), 0) = each (imS a) 0 a () := by
  rw [each_loop (L := L_impl_ItemsOk_1) a (fun (_ : Unit) g => (a, a, (a.length : Int), g)) (fun _ => ()) (imS a) (fun n t i y hy => ?_) (fun n s => by rw [e_L_impl_ItemsOk_1]; simp) (by rw [maxLen_eq]; omega) ()]
  · cases each (imS a) 0 a () with
    | none => rfl
    | some q => cases q <;> rfl
  · have hlt := (List.getElem?_eq_some_iff.1 hy).1
    rw [e_L_impl_ItemsOk_1]
    simp only [show ((i : Int) < (a.length : Int)) by omega, decide_true, cond_true, Int.natCast_nonneg, if_true, Int.toNat_natCast, hy, Option.bind_some, wrap_ok (n := (i : Int) + 1) (by omega) (by omega), imS, (x_ItemOk _ _ _ _).2, itB]
    cases itemB y.1 y.2.1 y.2.2.1 y.2.2.2
    · rfl
    · by_cases h0 : 0 < i
      · have e1 : IntKind.i64.wrap ((i : Int) - 1) = ((i - 1 : Nat) : Int) := by rw [wrap_ok (by omega) (by omega)]; omega
        simp only [Bool.not_true, cond_false, show (0 : Int) < (i : Int) by omega, decide_true, cond_true, e1, Int.natCast_nonneg, if_true, Int.toNat_natCast, h0, List.getElem?_eq_getElem (show i - 1 < a.length by omega), Option.bind_some, Sum.elim_inl]
        cases decide (y.1 ≤ a[i - 1].1) <;> simp only [cond_true, cond_false, Option.bind_some, Sum.elim_inl, Sum.elim_inr, wrap_ok (n := (i : Int) + 1) (by omega) (by omega)]
      · simp only [Bool.not_true, cond_false, show ¬ (0 : Int) < (i : Int) by omega, decide_false, h0, Option.bind_some, Sum.elim_inl, wrap_ok (n := (i : Int) + 1) (by omega) (by omega)]
theorem x_BundleOk {a b c : Int} {d : List ItemT} (h : d.length ≤ 1048576) : ∃ v, T_spec_BundleOk (a, b, c, d) = some v ∧ T_impl_BundleOk (a, b, c, d) = some v ∧ (v = true → (1 ≤ a ∧ a ≤ 5) ∧ (1 ≤ b ∧ b ≤ 9) ∧ (0 ≤ c ∧ c ≤ 9) ∧ d.length ≤ 60 ∧ ∀ y ∈ d, itB y = true) := by
  rw [e_T_spec_BundleOk, e_T_impl_BundleOk]
  simp only [x_isDaemonI, (x_inRange _ _ _).1, (x_inRange _ _ _).2, Option.bind_some, bif_bind, Sum.elim_inl, e_T_spec_ItemsOk, e_T_impl_ItemsOk, l_specI h, l_implI h]
  by_cases h1 : 1 ≤ a ∧ a ≤ 5
  · by_cases h2 : 1 ≤ b ∧ b ≤ 9
    · rw [wrap_ok (n := b - 1) (by omega) (by omega)]
      by_cases h3 : 0 ≤ c ∧ c ≤ b - 1
      · rw [decide_eq_true h1, decide_eq_true h2, decide_eq_true h3]
        rcases each_im d (by rw [maxLen_eq]; omega) with ⟨h7, h8, h9⟩ | h7
        · rw [h7]
          simp only [Option.bind_some, Sum.elim_inl, cond_true, Bool.not_true, cond_false]
          cases decide (0 < c)
          · exact ⟨_, rfl, rfl, fun _ => ⟨h1, h2, by omega, h8, h9⟩⟩
          · exact ⟨_, rfl, rfl, fun _ => ⟨h1, h2, by omega, h8, h9⟩⟩
        · rw [h7]
          exact ⟨false, rfl, rfl, fun h => by cases h⟩
      · rw [decide_eq_true h1, decide_eq_true h2, decide_eq_false h3]
        exact ⟨false, rfl, rfl, fun h => by cases h⟩
    · rw [decide_eq_true h1, decide_eq_false h2]
      exact ⟨false, rfl, rfl, fun h => by cases h⟩
  · rw [decide_eq_false h1]
    exact ⟨false, rfl, rfl, fun h => by cases h⟩
def bI (l : List UInt8) : List Int := List.map (fun (b : UInt8) => ((b.toNat : Nat) : Int)) l
theorem bI_back (l : List UInt8) : List.map (fun (n : (ET.int IntKind.u8).den) => UInt8.ofNat (Int.toNat n)) (bI l) = l := by
  induction l with
  | nil => rfl
  | cons c l ih =>
    show UInt8.ofNat (Int.toNat ((c.toNat : Nat) : Int)) :: List.map _ (bI l) = _
    rw [ih, Int.toNat_natCast, byte_of (c := c) rfl]
/-- A bundle's bytes, unsealed. -/
def bunT (a b c : Nat) (d : List ItemT) : List UInt8 := [UInt8.ofNat a] ++ [UInt8.ofNat b] ++ [UInt8.ofNat c] ++ vEnc d.length ++ d.flatMap fun m => shT (itT m)
theorem itT_len {m : ItemT} (h : itB m = true) : (itT m).length ≤ 80 := by
  obtain ⟨k, d, l, t⟩ := m
  simp only [itB, itemB, decide_eq_true_eq] at h
  have v1 := vEnc_l5 (n := k.toNat) (by omega)
  have v2 := vEnc_l5 (n := t.length) (by omega)
  simp only [itT, itemT, List.length_append, List.length_singleton]
  omega
theorem its_len : ∀ {d : List ItemT}, (∀ m ∈ d, itB m = true) → (d.flatMap fun m => shT (itT m)).length ≤ d.length * 100
  | [], _ => by simp
  | m :: d, h => by
    have h1 := itT_len (h m (by simp))
    have h2 := vEnc_l5 (n := (itT m).length) (by omega)
    have h3 := its_len (d := d) (fun x hx => h x (by simp [hx]))
    have h4 : (shT (itT m)).length ≤ 100 := by simp only [shT, List.length_append]; omega
    simp only [List.flatMap_cons, List.length_append, List.length_cons, Nat.add_mul, Nat.one_mul]; omega
theorem v_BundleText {a b c : Nat} {d : List ItemT} (ha : a < 256) (hb : b < 256) (hc : c < 256) {v : Bool} (hv : T_spec_BundleOk ((a : Int), (b : Int), (c : Int), d) = some v) (hd : v = true → d.length ≤ 60 ∧ ∀ y ∈ d, itB y = true) :
    T_spec_BundleText ((a : Int), (b : Int), (c : Int), d) = some (bif v then (bunT a b c d ++ four (sumV (bunT a b c d)), true) else ([], false)) := by
  rw [e_T_spec_BundleText, hv]
  cases v with
  | false => rfl
  | true =>
    obtain ⟨f6, f7⟩ := hd rfl
    have l6 := vEnc_l5 (n := d.length) (by omega)
    have l7 := its_len f7
    have l8 : d.length * 100 ≤ 60 * 100 := Nat.mul_le_mul_right _ f6
    have wb : ∀ {x : Nat}, x < 256 → List.map (fun (n : (ET.int IntKind.u8).den) => UInt8.ofNat (Int.toNat n)) [IntKind.u8.wrap (x : Int)] = [UInt8.ofNat x] := fun h0 => by rw [u8w (by omega) (by omega)]; rfl
    simp only [Option.bind_some, Bool.not_true, cond_false, wb ha, wb hb, wb hc, v_l01Var (a := (d.length : Int)) (by omega) (by omega), Int.toNat_natCast]
    rw [if_neg (by simp only [List.length_append, List.length_singleton]; omega)]
    let t0 : List UInt8 := [UInt8.ofNat a] ++ [UInt8.ofNat b] ++ [UInt8.ofNat c] ++ vEnc d.length
    have ht0 : t0.length ≤ 10 := by simp only [t0, List.length_append, List.length_singleton]; omega
    obtain ⟨s, h1, h2⟩ := loop_all (L := L_spec_BundleText_1) d (fun s g => (((a : Int), (b : Int), (c : Int), d), s, g)) (fun s => s) (fun i s => s = bI (t0 ++ (d.take i).flatMap fun m => shT (itT m))) (fun i y s hy hi hI => ⟨bI (t0 ++ (d.take (i + 1)).flatMap fun m => shT (itT m)), rfl, fun n => by
      have hyB := f7 y (List.mem_of_getElem? hy)
      have hyl := itT_len hyB
      have hsy : (shT (itT y)).length ≤ 100 := by
        have h2 := vEnc_l5 (n := (itT y).length) (by omega)
        simp only [shT, List.length_append]; omega
      have hci := its_len (d := d.take i) (fun x hx => f7 x (List.mem_of_mem_take hx))
      rw [List.length_take] at hci
      have hci2 : min i d.length * 100 ≤ 60 * 100 := Nat.mul_le_mul_right _ (by omega)
      subst hI
      have hyB' : itemB y.1 y.2.1 y.2.2.1 y.2.2.2 = true := hyB
      rw [e_L_spec_BundleText_1]
      simp only [show ((i : Int) < (d.length : Int)) by omega, decide_true, cond_true, Int.natCast_nonneg, if_true, Int.toNat_natCast, hy, Option.bind_some, v_ItemText, hyB']
      rw [show T_spec_l05Short (itemT y.1 y.2.1 y.2.2.1 y.2.2.2) = some (shT (itT y)) from v_short (show (itT y).length ≤ 1048576 by omega)]
      simp only [Option.bind_some]
      try rw [if_pos (show (shT (itT y)).length ≤ 9223372036854775807 by omega)]
      rw [if_pos ⟨by simp only [bI, List.length_map, List.length_append]; omega, by simp only [bI, List.length_map, List.length_append]; omega⟩, wrap_ok (by omega) (by omega), take_succ' hy]
      have e9 : (bI (t0 ++ (d.take i).flatMap fun m => shT (itT m))).append (List.map (fun (b : UInt8) => ((b.toNat : Nat) : Int)) (shT (itT y))) = bI (t0 ++ (d.take i ++ [y]).flatMap fun m => shT (itT m)) := by
        simp only [bI, List.append_eq, ← List.map_append, List.flatMap_append, List.flatMap_cons, List.flatMap_nil, List.append_nil, List.append_assoc]
      rw [e9]⟩) (fun n s _ => by rw [e_L_spec_BundleText_1]; simp) (by rw [maxLen_eq]; omega) (bI t0) (by simp)
    have e0 : (((UInt8.ofNat a).toNat : Nat) : Int) :: List.map (fun (b : UInt8) => ((b.toNat : Nat) : Int)) ((([].append [UInt8.ofNat b]).append [UInt8.ofNat c]).append (vEnc d.length)) = bI t0 := rfl
    have e00 : ∀ z : List Int, z = bI t0 → (L_spec_BundleText_1 fuel (((a : Int), (b : Int), (c : Int), d), z, 0)) = some (.inl s) := fun z hz => by rw [hz]; exact h2
    try rw [if_pos (show ([UInt8.ofNat a] ++ [UInt8.ofNat b] ++ [UInt8.ofNat c] ++ vEnc d.length).length ≤ 9223372036854775807 by simp only [List.length_append, List.length_singleton]; omega)]
    rw [e00 _ (by first | exact e0 | (rw [u8w (n := (a : Int)) (by omega) (by omega)]; exact e0))]
    rw [List.take_length] at h1
    have hs : s = bI (bunT a b c d) := h1
    have hsl : (bunT a b c d).length ≤ 10000 := by
      show (t0 ++ _).length ≤ _
      rw [List.length_append]; omega
    have hsl2 : s.length = (bunT a b c d).length := by rw [hs]; simp [bI]
    simp only [Option.bind_some, Sum.elim_inl]
    rw [wrap_ok (by omega) (by omega), decide_eq_false (by omega), cond_false, hs, bI_back, e_T_spec_Sealed, decide_eq_false (by omega), cond_false, (x_SumOf (by omega)).1, Option.bind_some, e_T_spec_l02Four]
    have h4 := four_len (sumV (bunT a b c d))
    show ((if ((((bunT a b c d).length + (four (sumV (bunT a b c d))).length : Nat) : Int)) > 9223372036854775807 then none else some (bunT a b c d ++ four (sumV (bunT a b c d)), true)).bind _ : Option (List UInt8 × Bool)) = _
    rw [if_neg (by omega)]; rfl
theorem itS_inv {a : List UInt8} {p : Int} {b : Bool} {t : List UInt8} {m : ItemT × Bool} {y : List UInt8 × Int × Bool} (h : itS (a, p, b) = some ((t, m), y)) : T_spec_l05ReadShort (a, p, b) = some (t, y) ∧ T_spec_ReadItem t = some m := by
  unfold itS at h
  obtain ⟨r, h1, h2⟩ := Option.bind_eq_some_iff.1 h
  obtain ⟨m', h3, h4⟩ := Option.bind_eq_some_iff.1 h2
  simp only [Option.some.injEq, Prod.mk.injEq] at h4
  obtain ⟨⟨rfl, rfl⟩, rfl⟩ := h4
  exact ⟨h1, h3⟩
theorem itI_inv {a : List UInt8} {p : Int} {b : Bool} {t : List UInt8} {m : ItemT × Bool} {a' : List UInt8} {p' : Int} {b' : Bool} (h : itI (a, p, b) = some ((t, m), a', p', b')) : ∃ b0, T___impl_scanner__short (a, p, b) = some (t, a', p', b0) ∧ T_impl_ReadItem t = some m ∧ b' = (b0 || !m.2) := by
  unfold itI at h
  obtain ⟨r, h1, h2⟩ := Option.bind_eq_some_iff.1 h
  obtain ⟨m', h3, h4⟩ := Option.bind_eq_some_iff.1 h2
  obtain ⟨r1, r2, r3, r4⟩ := r
  simp only [Option.some.injEq, Prod.mk.injEq] at h4
  obtain ⟨⟨rfl, rfl⟩, rfl, rfl, rfl⟩ := h4
  exact ⟨r4, h1, h3, rfl⟩
theorem sp_items {x a : List UInt8} {z : Int × Int × Int × List ItemT} {k1 k2 k3 : Int} {n : Nat} (hn : n ≤ 1000000000) : ∀ (m i p : Nat) (b : Bool) (gs : List ItemT) (ts : List (List UInt8 × (ItemT × Bool))) (p' : Nat) (b' : Bool) (f : Nat), m < f → i + m = min n 100 → gs.length = i → p ≤ a.length → GRun itS a m p b ts p' b' →
    ∃ (gs' : List ItemT) (p'' : Nat), L_spec_ReadBundle_1 f (x, z, (a, (p : Int), b), (k1, k2, k3, gs), (n : Int), (i : Int)) = some (.inl (x, z, (a, (p'' : Int), b'), (k1, k2, k3, gs'))) ∧ p'' ≤ a.length ∧ gs'.length ≤ 100 ∧ (∀ y ∈ gs', y ∈ gs ∨ ∃ t ∈ ts, y = t.2.1) ∧ (b' = false → gs' = gs ++ ts.map (·.2.1) ∧ p'' = p')
  | 0, i, p, b, gs, ts, p', b', f, hf, hi, hu, hp, h => by
    obtain ⟨f, rfl⟩ : ∃ g, f = g + 1 := ⟨f - 1, by omega⟩
    obtain ⟨rfl, rfl, rfl⟩ := h
    refine ⟨gs, p', ?_, hp, by omega, fun y hy => .inl hy, fun _ => ⟨by simp, rfl⟩⟩
    obtain ⟨z1, z2, z3, z4⟩ := z
    rw [e_L_spec_ReadBundle_1]
    by_cases h1 : (i : Int) < (n : Int)
    · simp only [h1, show ¬ (i : Int) < 100 by omega, decide_true, decide_false, cond_true, cond_false, Option.bind_some, Sum.elim_inl]
    · simp only [h1, decide_false, cond_false, Option.bind_some, Sum.elim_inl]
  | m + 1, i, p, b, gs, ts, p', b', f, hf, hi, hu, hp, h => by
    obtain ⟨f, rfl⟩ : ∃ g, f = g + 1 := ⟨f - 1, by omega⟩
    have hc := h.clear
    obtain ⟨⟨t, mm, ok⟩, l', p1, b1, rfl, h1, h2, h4, h5⟩ := h
    obtain ⟨g1, g2⟩ := itS_inv h1
    obtain ⟨z1, z2, z3, z4⟩ := z
    rw [e_L_spec_ReadBundle_1]
    simp only [show (i : Int) < (n : Int) by omega, show (i : Int) < 100 by omega, decide_true, cond_true, Option.bind_some, Sum.elim_inl]
    cases b with
    | true =>
      have hb' : b' = true := by
        cases hb : b' with
        | true => rfl
        | false => have := hc hb; cases this
      refine ⟨gs, p, ?_, hp, by omega, fun y hy => .inl hy, fun h => by rw [hb'] at h; cases h⟩
      rw [hb']; rfl
    | false =>
      obtain ⟨gs', p'', ih, i1, i2, i3, i4⟩ := sp_items (x := x) (z := (z1, z2, z3, z4)) (k1 := k1) (k2 := k2) (k3 := k3) hn m (i + 1) p1 b1 (gs ++ [mm]) l' p' b' f (by omega) (by omega) (by simp [hu]) h2 h5
      refine ⟨gs', p'', ?_, i1, i2, fun y hy => ?_, fun hb => ?_⟩
      · simp only [Bool.not_false, cond_true, g1, g2, Option.bind_some, List.length_cons, List.length_nil]
        rw [if_pos ⟨by omega, by omega⟩, wrap_ok (by omega) (by omega)]
        exact ih
      · rcases i3 y hy with h | ⟨t', ht', h⟩
        · rcases List.mem_append.1 h with h | h
          · exact .inl h
          · exact .inr ⟨_, List.mem_cons_self, List.mem_singleton.1 h⟩
        · exact .inr ⟨t', List.mem_cons_of_mem _ ht', h⟩
      · obtain ⟨j1, j2⟩ := i4 hb
        exact ⟨by rw [j1, List.append_assoc]; rfl, j2⟩
theorem im_items {a : List UInt8} {z : Int × Int × Int × List ItemT} {k1 k2 k3 : Int} {n : Nat} (hn : n ≤ 1000000) : ∀ (m i q : Nat) (b : Bool) (us : List ItemT) (ts : List (List UInt8 × (ItemT × Bool))) (q' : Nat) (b' : Bool) (f : Nat), m < f → i + m = n → us.length = i → GRun itI a m q b ts q' b' →
    L_impl_ReadBundle_1 f (z, (a, (q : Int), b), (k1, k2, k3, us), (n : Int), (i : Int)) = some (.inl (z, (a, (q' : Int), b'), (k1, k2, k3, us ++ ts.map (·.2.1))))
  | 0, i, q, b, us, ts, q', b', f, hf, hi, hu, h => by
    obtain ⟨f, rfl⟩ : ∃ g, f = g + 1 := ⟨f - 1, by omega⟩
    obtain ⟨rfl, rfl, rfl⟩ := h
    obtain ⟨z1, z2, z3, z4⟩ := z
    rw [e_L_impl_ReadBundle_1, decide_eq_false (by omega), List.map_nil, List.append_nil]; rfl
  | m + 1, i, q, b, us, ts, q', b', f, hf, hi, hu, h => by
    obtain ⟨f, rfl⟩ : ∃ g, f = g + 1 := ⟨f - 1, by omega⟩
    obtain ⟨⟨t, mm, ok⟩, l, p1, b1, rfl, h1, h2, h4, h5⟩ := h
    obtain ⟨b0, g1, g2, g3⟩ := itI_inv h1
    have ih := im_items (z := z) (k1 := k1) (k2 := k2) (k3 := k3) hn m (i + 1) p1 b1 (us ++ [mm]) l q' b' f (by omega) (by omega) (by simp [hu]) h5
    obtain ⟨z1, z2, z3, z4⟩ := z
    rw [e_L_impl_ReadBundle_1, decide_eq_true (by omega), cond_true, g1, Option.bind_some, g2, Option.bind_some]
    have hb : (bif b0 then some (Sum.inl ((z1, z2, z3, z4), (a, (p1 : Int), true), (k1, k2, k3, us), (mm.1, mm.2.1, mm.2.2.1, mm.2.2.2), (n : Int), (i : Int))) else some (Sum.inl ((z1, z2, z3, z4), (a, (p1 : Int), !ok), (k1, k2, k3, us), (mm.1, mm.2.1, mm.2.2.1, mm.2.2.2), (n : Int), (i : Int)))) = (some (Sum.inl ((z1, z2, z3, z4), (a, (p1 : Int), b1), (k1, k2, k3, us), (mm.1, mm.2.1, mm.2.2.1, mm.2.2.2), (n : Int), (i : Int))) : Option (((Int × Int × Int × List ItemT) × (List UInt8 × Int × Bool) × (Int × Int × Int × List ItemT) × ItemT × Int × Int) ⊕ (((Int × Int × Int × List ItemT) × (List UInt8 × Int × Bool) × Int × Int × Int × List ItemT) ⊕ ((Int × Int × Int × List ItemT) × Bool)))) := by
      rw [g3]; cases b0 <;> rfl
    simp only
    rw [hb]
    simp only [Option.bind_some, Sum.elim_inl, List.length_cons, List.length_nil]
    rw [if_pos ⟨by omega, by omega⟩, wrap_ok (by omega) (by omega)]
    rw [List.append_assoc] at ih
    exact ih
theorem flat_it : ∀ (ts : List (List UInt8 × (ItemT × Bool))), (∀ t ∈ ts, ItOk t) → (∀ t ∈ ts, t.2.2 = true) → (ts.flatMap fun t => shT t.1) = (ts.map (·.2.1)).flatMap fun m => shT (itT m)
  | [], _, _ => rfl
  | t :: ts, h, h' => by
    have h1 := ((h t (by simp)).1 (h' t (by simp))).2
    rw [List.flatMap_cons, List.map_cons, List.flatMap_cons, flat_it ts (fun x hx => h x (by simp [hx])) (fun x hx => h' x (by simp [hx]))]
    rw [show itT t.2.1 = t.1 from h1]
theorem r_ReadBundle {x : List UInt8} (hx : x.length ≤ 1048576) : ∃ r, T_spec_ReadBundle x = some r ∧ T_impl_ReadBundle x = some r ∧ (r.1.2.2.2.length ≤ 100 ∧ ∀ y ∈ r.1.2.2.2, y.2.2.2.length ≤ 1048576) ∧ (r.2 = true → T_spec_BundleText r.1 = some (x, true)) := by
  obtain ⟨u1, u2⟩ := x_Unsealed (a := x) (by omega)
  have hun : ∃ (a : List UInt8) (ok : Bool), unS x = (a, ok) ∧ a.length ≤ x.length ∧ (ok = true → ∀ t : List UInt8, (t ++ four (sumV t) == x) = (t == a)) := by
    unfold unS
    by_cases h : 4 ≤ x.length ∧ x.length ≤ 20004 ∧ x.drop (x.length - 4) = four (sumV (x.take (x.length - 4)))
    · rw [if_pos h]
      refine ⟨_, true, rfl, by rw [List.length_take]; omega, fun _ t => ?_⟩
      by_cases ht : t = x.take (x.length - 4)
      · have : t ++ four (sumV t) = x := by
          rw [ht, ← h.2.2]; exact List.take_append_drop _ _
        rw [beq_iff_eq.2 this, beq_iff_eq.2 ht]
      · have : ¬ t ++ four (sumV t) = x := fun e => ht (by
          have h4 := four_len (sumV t)
          have hl := congrArg List.length e
          rw [List.length_append] at hl
          conv => rhs; rw [← e]
          have hh : (t ++ four (sumV t)).length - 4 = t.length := by rw [List.length_append]; omega
          rw [hh, List.take_left])
        rw [beq_eq_false_iff_ne.2 this, beq_eq_false_iff_ne.2 ht]
    · rw [if_neg h]
      exact ⟨[], false, rfl, by simp, fun h => by cases h⟩
  obtain ⟨a, ok, hun, hal, hback⟩ := hun
  rw [hun] at u1 u2
  have ha4 : a.length ≤ 4294967296 := by omega
  let bi0 : Bool := !ok || decide (20000 < (x.length : Int))
  obtain ⟨k1, k1', p1, q1, bs1, bi1, e1, e1', lk1, lk1', S1⟩ := one_step (bs := !ok) (bi := bi0) ha4 (Nat.zero_le a.length) (Nat.zero_le a.length) (fun h => ⟨by simp only [bi0, Bool.or_eq_false_iff] at h; exact h.1, rfl⟩)
  have L1 : bi1 = false → bs1 = false ∧ q1 = p1 := fun h => ⟨(S1.go h).2.1, (S1.go h).2.2.1⟩
  obtain ⟨k2, k2', p2, q2, bs2, bi2, e2, e2', lk2, lk2', S2⟩ := one_step ha4 S1.hp S1.hq L1
  have L2 : bi2 = false → bs2 = false ∧ q2 = p2 := fun h => ⟨(S2.go h).2.1, (S2.go h).2.2.1⟩
  obtain ⟨k3, k3', p3, q3, bs3, bi3, e3, e3', lk3, lk3', S3⟩ := one_step ha4 S2.hp S2.hq L2
  have L3 : bi3 = false → bs3 = false ∧ q3 = p3 := fun h => ⟨(S3.go h).2.1, (S3.go h).2.2.1⟩
  obtain ⟨n, n', p6, q6, bs6, bi6, e6, e6', l6, l6', S6⟩ := num_step ha4 S3.hp S3.hq L3
  let bi6' : Bool := bif decide (60 < n') then true else bi6
  let m' : Nat := bif decide (60 < n') then 0 else n'
  have L6 : bi6' = false → bs6 = false ∧ q6 = p6 := fun h => by
    have h0 : bi6 = false := by
      by_cases h3 : 60 < n'
      · simp only [bi6', decide_eq_true h3, cond_true] at h; cases h
      · simpa only [bi6', decide_eq_false h3, cond_false] using h
    exact ⟨(S6.go h0).2.1, (S6.go h0).2.2.1⟩
  have ecount : T___impl_scanner__count ((a, (q3 : Int), bi3), 60) = some ((m' : Int), a, (q6 : Int), bi6') := by
    rw [e_T___impl_scanner__count, e6', Option.bind_some]
    by_cases h3 : 60 < n'
    · simp only [show (60 : Int) < (n' : Int) by omega, decide_true, cond_true, bi6', m', h3]; rfl
    · simp only [show ¬ (60 : Int) < (n' : Int) by omega, decide_false, cond_false, bi6', m', h3]
  have hm' : m' ≤ 60 := by
    by_cases h3 : 60 < n'
    · simp [m', h3]
    · simp [m', h3]; omega
  have hrun : ∃ (ts us : List (List UInt8 × (ItemT × Bool))) (p7 q7 : Nat) (bs7 bi7 : Bool), GRun itS a (min n 100) p6 bs6 ts p7 bs7 ∧ GRun itI a m' q6 bi6' us q7 bi7 ∧ ts.length = min n 100 ∧ us.length = m' ∧ (∀ t ∈ ts, ItOk t ∧ t.1.length ≤ a.length) ∧ (∀ t ∈ us, ItOk t ∧ t.1.length ≤ a.length) ∧
      Stp a p6 q6 bs6 bi6 p7 q7 bs7 bi7 (ts.flatMap fun t => shT t.1) (us = ts ∧ us.length = n' ∧ ∀ t ∈ ts, t.2.2 = true) (60 < n ∨ ∃ t ∈ ts, t.2.2 = false) := by
    obtain ⟨ts, us0, p7, q70, bs7, bi70, r7, r70, t1, u01, t2, u02, S7⟩ := items_step ha4 (min n 100) p6 q6 bs6 bi6' S6.hp S6.hq L6
    obtain ⟨_, us, _, q7, _, bi7, _, r7', _, u1, _, u2, S73⟩ := items_step ha4 m' p6 q6 bs6 bi6' S6.hp S6.hq L6
    by_cases hb : bi6' = false
    · have h3 : ¬ 60 < n' := fun h3 => by simp only [bi6', decide_eq_true h3, cond_true] at hb; cases hb
      have hbb : bi6 = false := by simpa only [bi6', decide_eq_false h3, cond_false] using hb
      have hm : m' = n' := by simp only [m', decide_eq_false h3, cond_false]
      have hnn : n' = n := (S6.go hbb).2.2.2
      have hmin : min n 100 = m' := by omega
      rw [hmin] at r70 u01
      refine ⟨ts, us0, p7, q70, bs7, bi70, r7, r70, t1, u01, t2, u02, S7.hp, S7.hq, fun h => ?_, S7.rd, fun h1 _ h2 => .inr (S7.far h1 hb h2)⟩
      obtain ⟨g1, g2, g3, g4, g5⟩ := S7.go h
      exact ⟨hbb, g2, g3, g4, by omega, g5⟩
    · have hb7 : bi7 = false → False := fun h => hb (S73.go h).1
      refine ⟨ts, us, p7, q7, bs7, bi7, r7, r7', t1, u1, t2, u2, S7.hp, S73.hq, fun h => (hb7 h).elim, S7.rd, fun h1 h0 _ => ?_⟩
      by_cases h3 : 60 < n'
      · exact .inl (by rw [← (S6.go h0).2.2.2]; exact h3)
      · exact absurd (by simp only [bi6', decide_eq_false h3, cond_false]; exact h0) hb
  obtain ⟨ts, us, p7, q7, bs7, bi7, r7, r7', t1, u1', t2, u2', S7⟩ := hrun
  obtain ⟨gs, p7', eg, g1, g2, g3, g4⟩ := sp_items (x := x) (z := (0, 0, 0, [])) (k1 := (k1 : Int)) (k2 := (k2 : Int)) (k3 := (k3 : Int)) l6 (min n 100) 0 p6 bs6 [] ts p7 bs7 fuel (by simp only [fuel]; omega) (by omega) rfl S6.hp r7
  have eim := im_items (z := (0, 0, 0, [])) (k1 := (k1' : Int)) (k2 := (k2' : Int)) (k3 := (k3' : Int)) (n := m') (by omega) m' 0 q6 bi6' [] us q7 bi7 fuel (by simp only [fuel]; omega) (by omega) rfl r7'
  rw [List.nil_append] at eim
  have S7' : Stp a p6 q6 bs6 bi6 p7' q7 bs7 bi7 (ts.flatMap fun t => shT t.1) (us.map (·.2.1) = gs ∧ gs.length = n' ∧ (ts.flatMap fun t => shT t.1) = gs.flatMap fun m => shT (itT m)) ((60 < n ∧ gs.length = min n 100) ∨ ∃ y ∈ gs, itB y = false) := by
    refine ⟨g1, S7.hq, fun h => ?_, fun h => ?_, fun h h0 h1 => ?_⟩
    · obtain ⟨k1, k2, k3, k4, k5, k6⟩ := S7.go h
      obtain ⟨j1, j2⟩ := g4 k2
      rw [List.nil_append] at j1
      exact ⟨k1, k2, by rw [j2]; exact k3, by rw [j1, k4], by rw [j1, List.length_map, ← k4]; exact k5, by rw [j1]; exact flat_it ts (fun t ht => (t2 t ht).1) k6⟩
    · obtain ⟨j1, j2⟩ := g4 h
      rw [j2]; exact S7.rd h
    · obtain ⟨j1, j2⟩ := g4 h
      rw [List.nil_append] at j1
      rcases S7.far h h0 h1 with h | ⟨t, ht, h⟩
      · exact .inl ⟨h, by rw [j1, List.length_map, t1]⟩
      · refine .inr ⟨t.2.1, by rw [j1]; exact List.mem_map.2 ⟨t, ht, rfl⟩, ?_⟩
        rw [(t2 t ht).1.2 h]; decide
  have S := (((S1.trans S2).trans S3).trans S6).trans S7'
  obtain ⟨v, v1, v2, v3⟩ := x_BundleOk (a := (k1 : Int)) (b := (k2 : Int)) (c := (k3 : Int)) (d := gs) (by omega)
  obtain ⟨v', v1', v2', v3'⟩ := x_BundleOk (a := (k1' : Int)) (b := (k2' : Int)) (c := (k3' : Int)) (d := us.map (·.2.1)) (by rw [List.length_map]; omega)
  have hT := v_BundleText lk1 lk2 lk3 v1 (fun h => ⟨(v3 h).2.2.2.1, (v3 h).2.2.2.2⟩)
  have hTl : v = true → (bunT k1 k2 k3 gs ++ four (sumV (bunT k1 k2 k3 gs))).length ≤ 20000 := fun h => by
    obtain ⟨_, _, _, w1, w2⟩ := v3 h
    have l6 := vEnc_l5 (n := gs.length) (by omega)
    have l7 := its_len w2
    have l8 : gs.length * 100 ≤ 60 * 100 := Nat.mul_le_mul_right _ w1
    have l9 := four_len (sumV (bunT k1 k2 k3 gs))
    rw [List.length_append]
    simp only [bunT, List.length_append, List.length_singleton] at *
    omega
  have es : T_spec_ReadBundle x = some (bif bs7 || (!v || !(bunT k1 k2 k3 gs ++ four (sumV (bunT k1 k2 k3 gs)) == x)) then ((0, 0, 0, []), false) else (((k1 : Int), (k2 : Int), (k3 : Int), gs), true)) := by
    rw [e_T_spec_ReadBundle, u1]
    simp only [Option.bind_some]
    rw [show (0 : Int) = ((0 : Nat) : Int) from rfl, e1]
    simp only [Option.bind_some, e2, e3, e6]
    rw [show ((0 : Nat) : Int) = (0 : Int) from rfl] at eg ⊢
    rw [eg]
    simp only [Option.bind_some, Sum.elim_inl, hT]
    cases bs7 <;> cases v <;> simp <;> (cases bunT k1 k2 k3 gs ++ four (sumV (bunT k1 k2 k3 gs)) == x <;> rfl)
  have ei : T_impl_ReadBundle x = some (bif bi7 || (!((q7 : Int) == (a.length : Int)) || !v') then ((0, 0, 0, []), false) else (((k1' : Int), (k2' : Int), (k3' : Int), us.map (·.2.1)), true)) := by
    rw [e_T_impl_ReadBundle, u2]
    have h0 : (bif !ok then some (Sum.inl ((0, 0, 0, []), a, 0, true)) else some (Sum.inl ((0, 0, 0, []), a, 0, decide (20000 < (x.length : Int))))) = (some (Sum.inl ((0, 0, 0, []), a, 0, bi0)) : Option (((Int × Int × Int × List ItemT) × List UInt8 × Int × Bool) ⊕ ((Int × Int × Int × List ItemT) × Bool))) := by
      simp only [bi0]; cases ok <;> rfl
    simp only [Option.bind_some]
    rw [h0]
    simp only [Option.bind_some, Sum.elim_inl]
    rw [show (0 : Int) = ((0 : Nat) : Int) from rfl, e1']
    simp only [Option.bind_some, e2', e3', ecount]
    rw [show ((0 : Nat) : Int) = (0 : Int) from rfl] at eim ⊢
    rw [eim]
    simp only [Option.bind_some, Sum.elim_inl, e_T___impl_scanner__done, v2']
    cases bi7 <;> cases v' <;> simp <;> (cases ((q7 : Int) == (a.length : Int)) <;> rfl)
  have zero : (([] : List ItemT).length ≤ 100 ∧ ∀ y ∈ ([] : List ItemT), y.2.2.2.length ≤ 1048576) := ⟨by decide, fun y hy => by cases hy⟩
  cases hb : bi7 with
  | false =>
    obtain ⟨hok, hbs, hq, ⟨⟨⟨h1, h2⟩, h3⟩, hn⟩, hus, hgl, hfl⟩ := S.go hb
    subst h1 h2 h3 hq
    rw [hus] at v1' ei
    rw [v1] at v1'
    cases v1'
    rw [es, ei, hbs, hb]
    cases hv : v with
    | false => exact ⟨_, rfl, by simp, zero, fun h => by simp at h⟩
    | true =>
      have hok' : ok = true := by
        simp only [bi0, Bool.or_eq_false_iff, Bool.not_eq_false'] at hok; exact hok.1
      have hTT : (bunT k1' k2' k3' gs ++ four (sumV (bunT k1' k2' k3' gs)) == x) = ((q7 : Int) == (a.length : Int)) := by
        rw [hback hok', ← (S.rd hbs).2.all, hfl, ← hn, ← hgl]; rfl
      rw [← hTT]
      cases hqq : (bunT k1' k2' k3' gs ++ four (sumV (bunT k1' k2' k3' gs)) == x) with
      | false => exact ⟨_, rfl, rfl, zero, fun h => by simp at h⟩
      | true =>
        rw [hv, eq_of_beq hqq] at hT
        refine ⟨_, rfl, rfl, ⟨g2, fun y hy => ?_⟩, fun _ => hT⟩
        have := (v3 hv).2.2.2.2 y hy
        simp only [itB, itemB, decide_eq_true_eq] at this
        omega
  | true =>
    have hz : (bs7 || (!v || !(bunT k1 k2 k3 gs ++ four (sumV (bunT k1 k2 k3 gs)) == x))) = true := by
      cases hbs : bs7 with
      | true => rfl
      | false =>
        cases hv : v with
        | false => rfl
        | true =>
          obtain ⟨_, _, _, w6, w7⟩ := v3 hv
          cases hb0 : bi0 with
          | true =>
            have hok := (S.rd hbs).1
            simp only [Bool.not_eq_false'] at hok
            simp only [bi0, hok, Bool.not_true, Bool.false_or, decide_eq_true_eq] at hb0
            have hne : ¬ bunT k1 k2 k3 gs ++ four (sumV (bunT k1 k2 k3 gs)) = x := fun e => by
              have := hTl hv
              rw [e] at this; omega
            rw [beq_eq_false_iff_ne.2 hne]; rfl
          | false =>
            exfalso
            rcases S.far hbs hb0 hb with (((h | h) | h) | h) | (⟨h, h'⟩ | ⟨y, hy, h⟩)
            · exact h.elim
            · exact h.elim
            · exact h.elim
            · exact h.elim
            · omega
            · rw [w7 y hy] at h; cases h
    rw [es, ei, hz, hb]
    exact ⟨_, rfl, rfl, zero, fun h => by simp at h⟩
theorem unS_back {t : List UInt8} (h : t.length ≤ 20000) : unS (t ++ four (sumV t)) = (t, true) := by
  have h4 := four_len (sumV t)
  have hl : (t ++ four (sumV t)).length - 4 = t.length := by rw [List.length_append]; omega
  unfold unS
  rw [hl, List.take_left, List.drop_left, if_pos ⟨by rw [List.length_append]; omega, by rw [List.length_append]; omega, rfl⟩]
theorem x_Sealed {s : List UInt8} (h : s.length ≤ 20000) : T_spec_Sealed s = some (s ++ four (sumV s), true) ∧ T_impl_Sealed s = some (s ++ four (sumV s), true) := by
  have h4 := four_len (sumV s)
  constructor
  · rw [e_T_spec_Sealed, decide_eq_false (by omega), cond_false, (x_SumOf (by omega)).1, Option.bind_some, e_T_spec_l02Four]
    show ((if (((s.length + (four (sumV s)).length : Nat) : Int)) > 9223372036854775807 then none else some (s ++ four (sumV s), true)) : Option (List UInt8 × Bool)) = _
    rw [if_neg (by omega)]
  · rw [e_T_impl_Sealed, decide_eq_false (by omega), cond_false, e_T_impl_sumText, (x_SumOf (by omega)).2, Option.bind_some, Option.bind_some]
    show ((if (((s.length + (four (sumV s)).length : Nat) : Int)) > 9223372036854775807 then none else some (s ++ four (sumV s), true)) : Option (List UInt8 × Bool)) = _
    rw [if_neg (by omega)]
theorem v_iText {m : ItemT} (h : itB m = true) : T_impl_itemText m = some (itT m) := by
  obtain ⟨k, d, l, t⟩ := m
  simp only [itB, itemB, decide_eq_true_eq] at h
  obtain ⟨⟨h1, h1'⟩, ⟨h2, h2'⟩, ⟨h3, h3'⟩, h4⟩ := h
  have e1 := vEnc_l5 (n := k.toNat) (by omega)
  have e2 := vEnc_l5 (n := t.length) (by omega)
  rw [e_T_impl_itemText, v_varText (by omega) (by omega), Option.bind_some, v_octets (by simp) (fun x hx => by
    rcases List.mem_cons.1 hx with rfl | hx
    · omega
    · rw [List.mem_singleton.1 hx]; omega), Option.bind_some, v_shortText (by omega), Option.bind_some]
  simp only [List.map_cons, List.map_nil]
  rw [if_neg (by simp only [List.length_cons, List.length_nil]; omega)]
  try rw [Option.bind_some]
  rw [if_neg (by simp only [List.length_append, List.length_cons, List.length_nil]; omega)]
  simp only [itT, itemT, List.append_assoc, List.cons_append, List.nil_append]
theorem v_IBundleText {a b c : Nat} {d : List ItemT} (ha : a < 256) (hb : b < 256) (hc : c < 256) {v : Bool} (hv : T_impl_BundleOk ((a : Int), (b : Int), (c : Int), d) = some v) (hd : v = true → d.length ≤ 60 ∧ ∀ y ∈ d, itB y = true) :
    T_impl_BundleText ((a : Int), (b : Int), (c : Int), d) = some (bif v then (bunT a b c d ++ four (sumV (bunT a b c d)), true) else ([], false)) := by
  rw [e_T_impl_BundleText, hv]
  cases v with
  | false => rfl
  | true =>
    obtain ⟨f6, f7⟩ := hd rfl
    have l6 := vEnc_l5 (n := d.length) (by omega)
    have l7 := its_len f7
    have l8 : d.length * 100 ≤ 60 * 100 := Nat.mul_le_mul_right _ f6
    have w3 : T_impl_octets [(a : Int), (b : Int), (c : Int)] = some ([UInt8.ofNat a] ++ [UInt8.ofNat b] ++ [UInt8.ofNat c]) := by
      rw [v_octets (by simp) (fun x hx => by
        rcases List.mem_cons.1 hx with rfl | hx
        · omega
        rcases List.mem_cons.1 hx with rfl | hx
        · omega
        · rw [List.mem_singleton.1 hx]; omega)]; rfl
    simp only [Option.bind_some, Bool.not_true, cond_false, w3, v_varText (a := (d.length : Int)) (by omega) (by omega), Int.toNat_natCast]
    rw [if_neg (by simp only [List.length_append, List.length_singleton]; omega), v_write (by simp only [List.length_append, List.length_singleton, List.length_nil]; omega), Option.bind_some]
    simp only [List.nil_append]
    let t0 : List UInt8 := [UInt8.ofNat a] ++ [UInt8.ofNat b] ++ [UInt8.ofNat c] ++ vEnc d.length
    have ht0 : t0.length ≤ 10 := by simp only [t0, List.length_append, List.length_singleton]; omega
    obtain ⟨s, h1, h2⟩ := loop_all (L := L_impl_BundleText_1) d (fun s g => (s, d, (d.length : Int), g)) (fun s => s) (fun i s => s = t0 ++ (d.take i).flatMap fun m => shT (itT m)) (fun i y s hy hi hI => ⟨t0 ++ (d.take (i + 1)).flatMap fun m => shT (itT m), rfl, fun n => by
      have hyB := f7 y (List.mem_of_getElem? hy)
      have hyl := itT_len hyB
      have hsy : (shT (itT y)).length ≤ 100 := by
        have h2 := vEnc_l5 (n := (itT y).length) (by omega)
        simp only [shT, List.length_append]; omega
      have hci := its_len (d := d.take i) (fun x hx => f7 x (List.mem_of_mem_take hx))
      rw [List.length_take] at hci
      have hci2 : min i d.length * 100 ≤ 60 * 100 := Nat.mul_le_mul_right _ (by omega)
      subst hI
      rw [e_L_impl_BundleText_1]
      simp only [show ((i : Int) < (d.length : Int)) by omega, decide_true, cond_true, Int.natCast_nonneg, if_true, Int.toNat_natCast, hy, Option.bind_some]
      rw [show T_impl_itemText (y.1, y.2.1, y.2.2.1, y.2.2.2) = some (itT y) from v_iText hyB]
      simp only [Option.bind_some]
      rw [show T_impl_shortText (itT y) = some (shT (itT y)) from v_shortText (by omega)]
      simp only [Option.bind_some]
      rw [v_write (by simp only [List.length_append]; omega), Option.bind_some, wrap_ok (by omega) (by omega), take_succ' hy]
      simp only [List.flatMap_append, List.flatMap_cons, List.flatMap_nil, List.append_nil, List.append_assoc]⟩) (fun n s _ => by rw [e_L_impl_BundleText_1]; simp) (by rw [maxLen_eq]; omega) t0 (by simp)
    show (L_impl_BundleText_1 fuel (t0, d, (d.length : Int), 0)).bind _ = _
    rw [h2]
    rw [List.take_length] at h1
    have hs : s = bunT a b c d := h1
    have hsl : s.length ≤ 10000 := by rw [h1, List.length_append]; omega
    have hne : s ≠ [] := by rw [h1]; simp [t0]
    have h4 := four_len (sumV s)
    simp only [Option.bind_some, Sum.elim_inl]
    rw [v_string hne, Option.bind_some, (x_Sealed (by omega)).2]
    simp only [Option.bind_some, Bool.not_true, cond_false]
    rw [decide_eq_false (by rw [List.length_append]; omega)]
    simp only [Option.bind_some, Sum.elim_inl, cond_false, hs, cond_true]
theorem GR_fwd {a : List UInt8} (ha : a.length ≤ 4294967296) : ∀ (d : List ItemT) (p q : Nat), p ≤ a.length → Rd a p q (d.flatMap fun m => shT (itT m)) → (∀ m ∈ d, itB m = true) → GRun itI a d.length p false (d.map fun m => (itT m, (m, true))) q false
  | [], p, q, hp, h, _ => by
    have := h.len hp
    exact ⟨rfl, by simpa using this, rfl⟩
  | m :: d, p, q, hp, h, hy => by
    simp only [List.flatMap_cons] at h
    obtain ⟨h1, h2⟩ := Rd.cut hp h
    have hm := hy m (by simp)
    have hl := itT_len hm
    have e := F_sh (lim := 20000) hp h1 (by omega) (by omega)
    refine ⟨(itT m, (m, true)), d.map fun m => (itT m, (m, true)), p + (shT (itT m)).length, false, rfl, ?_, h1.1, fun _ => rfl, GR_fwd ha d _ q h1.1 h2 (fun z hz => hy z (by simp [hz]))⟩
    have hf : T_impl_ReadItem (itT m) = some (m, true) := fwd_item (k := m.1) (d := m.2.1) (l := m.2.2.1) (t := m.2.2.2) hm
    unfold itI
    rw [s_impl hp ha, e]
    simp only [Option.bind_some, hf, Bool.not_true, Bool.or_false]
theorem f_ReadBundle {a b c : Nat} {d : List ItemT} (f1 : a < 256) (f2 : b < 256) (f3 : c < 256) (f6 : d.length ≤ 60) (f7 : ∀ y ∈ d, itB y = true) (hk : T_impl_BundleOk ((a : Int), (b : Int), (c : Int), d) = some true) :
    T_impl_ReadBundle (bunT a b c d ++ four (sumV (bunT a b c d))) = some (((a : Int), (b : Int), (c : Int), d), true) ∧ (bunT a b c d).length ≤ 10000 := by
  have l6 := vEnc_l5 (n := d.length) (by omega)
  have l7 := its_len f7
  have l8 : d.length * 100 ≤ 60 * 100 := Nat.mul_le_mul_right _ f6
  obtain ⟨t, ht⟩ : ∃ t, t = bunT a b c d := ⟨_, rfl⟩
  have htl : t.length ≤ 10000 := by rw [ht]; simp only [bunT, List.length_append, List.length_singleton]; omega
  rw [← ht]
  have h4 := four_len (sumV t)
  have ha : t.length ≤ 4294967296 := by omega
  refine ⟨?_, htl⟩
  rw [e_T_impl_ReadBundle, (x_Unsealed (by rw [List.length_append]; omega)).2, unS_back (by omega)]
  have hw : Rd t 0 t.length ([UInt8.ofNat a] ++ ([UInt8.ofNat b] ++ ([UInt8.ofNat c] ++ (vEnc d.length ++ d.flatMap fun m => shT (itT m))))) := ⟨Nat.le_refl _, by rw [List.drop_zero, List.drop_length, List.append_nil, ht]; simp only [bunT, List.append_assoc]⟩
  obtain ⟨c1, w1⟩ := Rd.cut (Nat.zero_le _) hw
  obtain ⟨c2, w2⟩ := Rd.cut c1.1 w1
  obtain ⟨c3, w3⟩ := Rd.cut c2.1 w2
  obtain ⟨c4, w4⟩ := Rd.cut c3.1 w3
  have e1 := o_impl (bad := false) (Nat.zero_le t.length) ha
  rw [F_one (Nat.zero_le _) c1 f1] at e1
  have e2 := o_impl (bad := false) c1.1 ha
  rw [F_one c1.1 c2 f2] at e2
  have e3 := o_impl (bad := false) c2.1 ha
  rw [F_one c2.1 c3 f3] at e3
  have e4 := n_impl (bad := false) c3.1 ha
  rw [F_num c3.1 c4 (by omega)] at e4
  have hmap : (d.map fun m => (itT m, (m, true))).map (·.2.1) = d := by rw [List.map_map]; exact List.map_id d
  have e5 := im_items (z := (0, 0, 0, [])) (k1 := (a : Int)) (k2 := (b : Int)) (k3 := (c : Int)) (n := d.length) (by omega) d.length 0 _ false [] _ t.length false fuel (by simp only [fuel]; omega) (by omega) rfl (GR_fwd ha d _ _ c4.1 w4 f7)
  rw [List.nil_append, hmap] at e5
  rw [show ((0 : Nat) : Int) = (0 : Int) from rfl] at e1 e5
  simp only [Option.bind_some, Bool.not_true, cond_false]
  rw [decide_eq_false (by rw [List.length_append]; omega)]
  simp only [Option.bind_some, Sum.elim_inl]
  rw [e1]
  simp only [Option.bind_some]
  rw [e2]
  simp only [Option.bind_some]
  rw [e3]
  simp only [Option.bind_some]
  rw [e_T___impl_scanner__count, e4]
  simp only [Option.bind_some]
  rw [decide_eq_false (by omega), cond_false]
  try simp only [Option.bind_some]
  rw [e5]
  simp only [Option.bind_some, Sum.elim_inl, e_T___impl_scanner__done, hk, beq_self_eq_true, Bool.not_false, Bool.not_true, cond_true, cond_false]
theorem x_BundleText {a b c : Int} {d : List ItemT} (h : d.length ≤ 1048576) : ∃ (v : Bool) (S : List UInt8), T_spec_BundleOk (a, b, c, d) = some v ∧ T_impl_BundleOk (a, b, c, d) = some v ∧ T_spec_BundleText (a, b, c, d) = some (S, v) ∧ T_impl_BundleText (a, b, c, d) = some (S, v) ∧ (v = true → T_impl_ReadBundle S = some ((a, b, c, d), true)) ∧ S.length ≤ 10004 := by
  obtain ⟨v, h1, h2, h3⟩ := x_BundleOk (a := a) (b := b) (c := c) h
  cases v with
  | false => exact ⟨false, [], h1, h2, by rw [e_T_spec_BundleText, h1]; rfl, by rw [e_T_impl_BundleText, h2]; rfl, fun h => (by cases h), by simp⟩
  | true =>
    obtain ⟨w1, w2, w3, w4, w5⟩ := h3 rfl
    obtain ⟨a, rfl⟩ : ∃ n : Nat, a = (n : Int) := ⟨a.toNat, by omega⟩
    obtain ⟨b, rfl⟩ : ∃ n : Nat, b = (n : Int) := ⟨b.toNat, by omega⟩
    obtain ⟨c, rfl⟩ : ∃ n : Nat, c = (n : Int) := ⟨c.toNat, by omega⟩
    obtain ⟨g1, g2⟩ := f_ReadBundle (a := a) (b := b) (c := c) (by omega) (by omega) (by omega) w4 w5 h2
    exact ⟨true, _, h1, h2, v_BundleText (by omega) (by omega) (by omega) h1 (fun _ => ⟨w4, w5⟩), v_IBundleText (by omega) (by omega) (by omega) h2 (fun _ => ⟨w4, w5⟩), fun _ => g1, by rw [List.length_append, four_len]; omega⟩
def ShortI (n : Nat) (l : List ItemT) : Prop := ∀ y ∈ l, y.2.2.2.length ≤ n
theorem ShortI.app {n : Nat} {l : List ItemT} {y : ItemT} (h : ShortI n l) (hy : y.2.2.2.length ≤ n) : ShortI n (l ++ [y]) := fun x hx => by
  rcases List.mem_append.1 hx with hx | hx
  · exact h x hx
  · rw [List.mem_singleton.1 hx]; exact hy
theorem ShortI.mono {n m : Nat} {l : List ItemT} (h : ShortI n l) (hm : n ≤ m) : ShortI m l := fun x hx => Nat.le_trans (h x hx) hm
theorem dec7 {r : Int} (h0 : 0 ≤ r) (h : r < 7) : ∃ s, T_spec_Decimal r = some s ∧ s.length = 1 := by
  have : r = 0 ∨ r = 1 ∨ r = 2 ∨ r = 3 ∨ r = 4 ∨ r = 5 ∨ r = 6 := by omega
  rcases this with rfl | rfl | rfl | rfl | rfl | rfl | rfl
  · exact ⟨[48], by kernel_rfl, rfl⟩
  · exact ⟨[49], by kernel_rfl, rfl⟩
  · exact ⟨[50], by kernel_rfl, rfl⟩
  · exact ⟨[51], by kernel_rfl, rfl⟩
  · exact ⟨[52], by kernel_rfl, rfl⟩
  · exact ⟨[53], by kernel_rfl, rfl⟩
  · exact ⟨[54], by kernel_rfl, rfl⟩
theorem l_Ring {a : List Int} (ha : a.length ≤ 1048576) (z : Int × List Int) {f : Int} : ∀ (m i n : Nat) (b c : Int) (g : List Int), m < n → i + m = 5 → 0 ≤ b → g.length ≤ i → ∃ b' c' g', L_spec_l09Ring_1 n ((a, b, c), z, (f, g), (i : Int)) = some (.inl ((a, b', c'), z, f, g')) ∧ 0 ≤ b' ∧ g'.length ≤ 5
  | m, i, n, b, c, g, hn, hi, hb, hg => by
    obtain ⟨n, rfl⟩ : ∃ j, n = j + 1 := ⟨n - 1, by omega⟩
    obtain ⟨z1, z2⟩ := z
    rw [e_L_spec_l09Ring_1]
    by_cases hlt : (i : Int) ≤ 4
    · obtain ⟨m, rfl⟩ : ∃ j, m = j + 1 := ⟨m - 1, by omega⟩
      obtain ⟨o, b1, c1, h1, h2⟩ := x_Once (c := c) (n := 3) ha hb (by omega)
      have hw : IntKind.i64.wrap ((i : Int) + 1) = ((i + 1 : Nat) : Int) := by rw [wrap_ok (by omega) (by omega)]; omega
      rw [decide_eq_true hlt, cond_true, h1, Option.bind_some]
      cases o with
      | true =>
        simp only [Bool.not_true, cond_false, Option.bind_some, Sum.elim_inl, hw]
        exact l_Ring ha (z1, z2) m (i + 1) n b1 c1 g (by omega) (by omega) h2 (by omega)
      | false =>
        simp only [Bool.not_false, cond_true, List.length_singleton]
        rw [if_pos ⟨by omega, by omega⟩]
        simp only [Option.bind_some, Sum.elim_inl, hw]
        exact l_Ring ha (z1, z2) m (i + 1) n b1 c1 (g ++ [(i : Int)]) (by omega) (by omega) h2 (by simp; omega)
    · rw [decide_eq_false hlt, cond_false]
      exact ⟨b, c, g, rfl, hb, by omega⟩
theorem x_Ring {a : List Int} {b c : Int} (ha : a.length ≤ 1048576) (hb : 0 ≤ b) : ∃ f g b' c', T_spec_l09Ring (a, b, c) = some ((f, g), a, b', c') ∧ 0 ≤ b' ∧ 0 < g.length ∧ g.length ≤ 5 := by
  obtain ⟨r, b1, c1, h1, _, _, _, p1⟩ := x_Below (c := c) (n := 3) ha hb (by omega)
  obtain ⟨b2, c2, g, h2, p2, h3⟩ := l_Ring ha (0, []) (f := IntKind.i64.wrap (1 + r)) 4 1 fuel b1 c1 [] (by decide) (by decide) p1 (by decide)
  rw [show ((1 : Nat) : Int) = (1 : Int) from rfl] at h2
  rw [e_T_spec_l09Ring, h1, Option.bind_some]
  simp only
  rw [h2]
  simp only [Option.bind_some, Sum.elim_inl]
  by_cases hg : g.length = 0
  · have : ((g.length : Int) == 0) = true := by simp; exact List.length_eq_zero_iff.1 hg
    rw [this]
    exact ⟨_, [Int.ofNat 2], b2, c2, rfl, p2, by decide, by decide⟩
  · have : ((g.length : Int) == 0) = false := beq_eq_false_iff_ne.2 (by omega)
    rw [this]
    exact ⟨_, g, b2, c2, rfl, p2, by omega, h3⟩
theorem l_B1 {s : List Int × Int × Int} {z w : Int × Int × Int × List ItemT} : ∀ (m i n : Nat) (l : List ItemT), m < n → i + m = 7 → l.length ≤ i → ShortI 1 l → ∃ l', L_spec_l13Bundle_1 n (s, z, w, l, (i : Int)) = some (.inl (s, z, w, l')) ∧ l'.length ≤ 7 ∧ ShortI 1 l'
  | m, i, n, l, hn, hi, hl, hx => by
    obtain ⟨n, rfl⟩ : ∃ j, n = j + 1 := ⟨n - 1, by omega⟩
    obtain ⟨s1, s2, s3⟩ := s
    obtain ⟨z1, z2, z3, z4⟩ := z
    obtain ⟨w1, w2, w3, w4⟩ := w
    rw [e_L_spec_l13Bundle_1]
    by_cases hlt : (i : Int) ≤ 6
    · obtain ⟨m, rfl⟩ : ∃ j, m = j + 1 := ⟨m - 1, by omega⟩
      obtain ⟨t, h1, h2⟩ := dec7 (r := (i : Int)) (by omega) (by omega)
      have hw : IntKind.i64.wrap ((i : Int) + 1) = ((i + 1 : Nat) : Int) := by rw [wrap_ok (by omega) (by omega)]; omega
      rw [decide_eq_true hlt, cond_true, h1, Option.bind_some]
      simp only [List.length_singleton]
      rw [if_pos ⟨by omega, by omega⟩, hw]
      exact l_B1 m (i + 1) n (l ++ [_]) (by omega) (by omega) (by simp; omega) (hx.app (by simp only; omega))
    · rw [decide_eq_false hlt, cond_false]
      exact ⟨l, rfl, by omega, hx⟩
theorem l_B2 {a : List Int} (ha : a.length ≤ 1048576) {z : Int × Int × Int × List ItemT} {w1 w2 w3 : Int} {l : List ItemT} (hl : l.length ≤ 7) (hx : ShortI 1 l) : ∀ (m i n : Nat) (b c : Int) (k : List ItemT), m < n → i + m = l.length → 0 ≤ b → k.length ≤ i → ShortI 1 k → ∃ b' c' k', L_spec_l13Bundle_2 n ((a, b, c), z, (w1, w2, w3, k), l, (i : Int)) = some (.inl ((a, b', c'), z, w1, w2, w3, k')) ∧ 0 ≤ b' ∧ k'.length ≤ 7 ∧ ShortI 1 k'
  | m, i, n, b, c, k, hn, hi, hb, hk, hy => by
    obtain ⟨n, rfl⟩ : ∃ j, n = j + 1 := ⟨n - 1, by omega⟩
    obtain ⟨z1, z2, z3, z4⟩ := z
    rw [e_L_spec_l13Bundle_2]
    by_cases hlt : i < l.length
    · obtain ⟨m, rfl⟩ : ∃ j, m = j + 1 := ⟨m - 1, by omega⟩
      obtain ⟨o, b1, c1, h1, h2⟩ := x_Once (c := c) (n := 3) ha hb (by omega)
      have hw : IntKind.i64.wrap ((i : Int) + 1) = ((i + 1 : Nat) : Int) := by rw [wrap_ok (by omega) (by omega)]; omega
      have hg : l[i]? = some l[i] := List.getElem?_eq_getElem hlt
      rw [decide_eq_true (by omega), cond_true, h1, Option.bind_some]
      cases o with
      | true =>
        simp only [Bool.not_true, cond_false, Option.bind_some, Sum.elim_inl, hw]
        exact l_B2 ha hl hx m (i + 1) n b1 c1 k (by omega) (by omega) h2 (by omega) hy
      | false =>
        simp only [Bool.not_false, cond_true, Int.natCast_nonneg, if_true, Int.toNat_natCast, hlt, hg, Option.bind_some, List.length_singleton]
        rw [if_pos ⟨by omega, by omega⟩]
        simp only [Option.bind_some, Sum.elim_inl, hw]
        exact l_B2 ha hl hx m (i + 1) n b1 c1 (k ++ [_]) (by omega) (by omega) h2 (by simp; omega) (hy.app (hx _ (List.getElem_mem hlt)))
    · rw [decide_eq_false (by omega), cond_false]
      exact ⟨b, c, k, rfl, hb, by omega, hy⟩
theorem x_B {a : List Int} {b c d f : Int} {e : List Int} (ha : a.length ≤ 1048576) (hb : 0 ≤ b) (hd : 0 ≤ d) (hd4 : d ≤ 5) : ∃ k1 k2 k3 l b' c', T_spec_l13Bundle ((a, b, c), (d, e), f) = some ((k1, k2, k3, l), a, b', c') ∧ 0 ≤ b' ∧ l.length ≤ 7 ∧ ShortI 1 l := by
  have nil1 : ShortI 1 [] := fun y hy => by cases hy
  rw [e_T_spec_l13Bundle]
  by_cases h1 : 1 < d
  · obtain ⟨o, b1, c1, g1, p1⟩ := x_Once (c := c) (n := 4) ha hb (by omega)
    rw [decide_eq_true h1, cond_true, g1]
    simp only [Option.bind_some, Sum.elim_inl]
    cases o with
    | true =>
      simp only [Bool.not_true, cond_false, Option.bind_some, Sum.elim_inl]
      exact ⟨_, _, _, [], b1, c1, rfl, p1, by decide, nil1⟩
    | false =>
      obtain ⟨r, b2, c2, g2, _, _, _, p2⟩ := x_Below (c := c1) (n := d - 1) ha p1 (by omega)
      simp only [Bool.not_false, cond_true]
      rw [wrap_ok (n := d - 1) (by omega) (by omega), g2]
      simp only [Option.bind_some]
      obtain ⟨l, m1, m2, m3⟩ := l_B1 (s := (a, b2, c2)) (z := (0, 0, 0, [])) (w := (f, d, IntKind.i64.wrap (1 + r), [])) 6 1 fuel [] (by decide) (by decide) (by decide) nil1
      rw [show ((1 : Nat) : Int) = (1 : Int) from rfl] at m1
      rw [m1]
      simp only [Option.bind_some, Sum.elim_inl]
      obtain ⟨b3, c3, k, n1, n2, n3, n4⟩ := l_B2 ha (z := (0, 0, 0, [])) (w1 := f) (w2 := d) (w3 := IntKind.i64.wrap (1 + r)) m2 m3 l.length 0 fuel b2 c2 [] (by simp only [fuel]; omega) (by omega) p2 (by decide) nil1
      rw [show ((0 : Nat) : Int) = (0 : Int) from rfl] at n1
      rw [n1]
      exact ⟨_, _, _, k, b3, c3, rfl, n2, n3, n4⟩
  · rw [decide_eq_false h1, cond_false]
    exact ⟨_, _, _, [], b, c, rfl, hb, by decide, nil1⟩
theorem l_Items {a : List Int} (ha : a.length ≤ 1048576) : ∀ (m i n : Nat) (b c : Int) (d : List ItemT), m < n → i + m = 10 → 0 ≤ b → d.length ≤ i → ShortI 3 d → ∃ b' c' d', L_spec_l05Items_1 n ((a, b, c), d, (i : Int)) = some (.inl ((a, b', c'), d')) ∧ 0 ≤ b' ∧ d'.length ≤ 10 ∧ ShortI 3 d'
  | m, i, n, b, c, d, hn, hi, hb, hd, hx => by
    obtain ⟨n, rfl⟩ : ∃ j, n = j + 1 := ⟨n - 1, by omega⟩
    obtain ⟨r, b1, c1, h1, _, h3, _, p1⟩ := x_Below (c := c) (n := 10) ha hb (by omega)
    have hr := h3 (by omega)
    rw [e_L_spec_l05Items_1, h1, Option.bind_some]
    simp only
    by_cases hlt : (i : Int) ≤ r
    · obtain ⟨m, rfl⟩ : ∃ j, m = j + 1 := ⟨m - 1, by omega⟩
      obtain ⟨o, b2, c2, g1, p2⟩ := x_Once (c := c1) (n := 4) ha p1 (by omega)
      have hw : IntKind.i64.wrap ((i : Int) + 1) = ((i + 1 : Nat) : Int) := by rw [wrap_ok (by omega) (by omega)]; omega
      rw [decide_eq_true hlt, cond_true, g1, Option.bind_some]
      cases o with
      | true =>
        simp only [Bool.not_true, cond_false, Option.bind_some, Sum.elim_inl, hw]
        exact l_Items ha m (i + 1) n b2 c2 d (by omega) (by omega) p2 (by omega) hx
      | false =>
        obtain ⟨k1, k2, k3, t, b3, c3, q1, q2, p3⟩ := x_Of (c := c2) (n := (i : Int)) ha p2
        simp only [Bool.not_false, cond_true, q1, Option.bind_some, List.length_singleton]
        rw [if_pos ⟨by omega, by omega⟩]
        simp only [Option.bind_some, Sum.elim_inl, hw]
        exact l_Items ha m (i + 1) n b3 c3 (d ++ [_]) (by omega) (by omega) p3 (by simp; omega) (hx.app q2)
    · rw [decide_eq_false hlt, cond_false]
      exact ⟨b1, c1, d, rfl, p1, by omega, hx⟩
theorem x_AnyItems {a : List Int} {b c : Int} (ha : a.length ≤ 1048576) (hb : 0 ≤ b) : ∃ l b' c', T_spec_l05AnyItems (a, b, c) = some (l, a, b', c') ∧ 0 ≤ b' ∧ l.length ≤ 11 ∧ ShortI 61 l := by
  obtain ⟨b1, c1, l, h1, p1, h2, h3⟩ := l_Items ha 9 1 fuel b c [] (by decide) (by decide) hb (by decide) (fun y hy => by cases hy)
  rw [show ((1 : Nat) : Int) = (1 : Int) from rfl] at h1
  have h4 : T_spec_l05Items (a, b, c) = some (l, a, b1, c1) := by rw [e_T_spec_l05Items, h1]; rfl
  obtain ⟨r, b2, c2, g1, _, _, _, p2⟩ := x_Below (c := c1) (n := 16) ha p1 (by omega)
  rw [e_T_spec_l05AnyItems, h4, Option.bind_some]
  simp only
  rw [g1, Option.bind_some]
  simp only
  cases r == 0 with
  | true =>
    obtain ⟨k, d, q, t, b3, c3, m1, m2, p3⟩ := x_AnyItem (c := c2) ha p2
    simp only [cond_true, m1, Option.bind_some, List.length_singleton]
    rw [if_pos ⟨by omega, by omega⟩]
    exact ⟨l ++ [(k, d, q, t)], b3, c3, rfl, p3, by simp; omega, (h3.mono (by omega)).app m2⟩
  | false =>
    rw [cond_false]
    cases r == 1 with
    | true =>
      rw [cond_true]
      by_cases h0 : 0 < (l.length : Int)
      · obtain ⟨j, b3, c3, m1, m2, m3, _, p3⟩ := x_Below (c := c2) (n := (l.length : Int)) ha p2 (by omega)
        have hj := m3 h0
        obtain ⟨y, b4, c4, k1, _, p4⟩ := x_PickInt (c := c3) (l := [Int.ofNat 0, Int.negSucc 0, Int.ofNat 3, Int.ofNat 61]) ha p3 (by decide) (by decide)
        have hjl : j.toNat < l.length := by omega
        have hg : l[j.toNat]? = some l[j.toNat] := List.getElem?_eq_getElem hjl
        rw [decide_eq_true h0, cond_true, m1, Option.bind_some]
        simp only
        rw [k1, Option.bind_some, if_pos m2, if_pos hjl, hg, Option.bind_some, Option.bind_some]
        refine ⟨l.set j.toNat (y, l[j.toNat].2.1, l[j.toNat].2.2.1, l[j.toNat].2.2.2), b4, c4, rfl, p4, by simp; omega, fun x hx => ?_⟩
        rcases List.mem_or_eq_of_mem_set hx with hx | rfl
        · have := h3 x hx; omega
        · have := h3 _ (List.getElem_mem hjl)
          simp only; omega
      · rw [decide_eq_false h0, cond_false]
        exact ⟨l, b2, c2, rfl, p2, by omega, h3.mono (by omega)⟩
    | false =>
      rw [cond_false]
      exact ⟨l, b2, c2, rfl, p2, by omega, h3.mono (by omega)⟩
theorem x_AnyBundle {a : List Int} {b c : Int} (ha : a.length ≤ 1048576) (hb : 0 ≤ b) : ∃ k1 k2 k3 l b' c', T_spec_l13AnyBundle (a, b, c) = some ((k1, k2, k3, l), a, b', c') ∧ 0 ≤ b' ∧ l.length ≤ 11 := by
  obtain ⟨f, g, b1, c1, h1, p1, h2, h3⟩ := x_Ring (c := c) ha hb
  obtain ⟨r, b2, c2, g1, q1, q2, _, p2⟩ := x_Below (c := c1) (n := 4) ha p1 (by omega)
  have hr := q2 (by omega)
  have hg : g[0]? = some g[0] := List.getElem?_eq_getElem h2
  obtain ⟨k1, k2, k3, l, b3, c3, m1, p3, m2, m3⟩ := x_B (c := c2) (d := 1 + r) (f := g[0]) (e := g) ha p2 (by omega) (by omega)
  obtain ⟨q, b4, c4, n1, _, _, _, p4⟩ := x_Below (c := c3) (n := 20) ha p3 (by omega)
  rw [e_T_spec_l13AnyBundle, h1, Option.bind_some]
  simp only
  rw [g1, Option.bind_some]
  simp only
  rw [hg, Option.bind_some, wrap_ok (n := 1 + r) (by omega) (by omega), m1, Option.bind_some]
  simp only
  rw [n1, Option.bind_some]
  simp only
  cases q == 0 with
  | true =>
    obtain ⟨y, b5, c5, s1, _, p5⟩ := x_PickInt (c := c4) (l := [Int.ofNat 0, Int.ofNat 5, Int.ofNat 6]) ha p4 (by decide) (by decide)
    rw [cond_true, s1]
    exact ⟨y, k2, k3, l, b5, c5, rfl, p5, by omega⟩
  | false =>
  rw [cond_false]
  cases q == 1 with
  | true =>
    obtain ⟨y, b5, c5, s1, _, p5⟩ := x_PickInt (c := c4) (l := [Int.ofNat 0, Int.ofNat 9, Int.ofNat 10]) ha p4 (by decide) (by decide)
    rw [cond_true, s1]
    exact ⟨k1, y, k3, l, b5, c5, rfl, p5, by omega⟩
  | false =>
  rw [cond_false]
  cases q == 2 with
  | true =>
    obtain ⟨y, b5, c5, s1, _, p5⟩ := x_PickInt (c := c4) (l := [-1, 0, k2]) ha p4 (by simp) (by simp)
    rw [cond_true, s1]
    exact ⟨k1, k2, y, l, b5, c5, rfl, p5, by omega⟩
  | false =>
  rw [cond_false]
  cases q == 3 with
  | true =>
    obtain ⟨y, b5, c5, s1, p5, s2, _⟩ := x_AnyItems (c := c4) ha p4
    rw [cond_true, s1]
    exact ⟨k1, k2, k3, y, b5, c5, rfl, p5, by omega⟩
  | false =>
  rw [cond_false]
  exact ⟨k1, k2, k3, l, b4, c4, rfl, p4, by omega⟩
theorem x_sameItems {a : List ItemT} (ha : a.length ≤ 1048576) : T_laws_sameItems (a, a) = some true := by
  obtain ⟨s, h1, h2⟩ := loop_all (L := L_laws_sameItems_1) a (fun (_ : Unit) i => (a, a, i)) (fun _ => ()) (fun _ _ => True) (fun i y s hy hi hI => ⟨(), trivial, fun n => by
    rw [e_L_laws_sameItems_1]
    simp only [show ((i : Int) < (a.length : Int)) by omega, decide_true, cond_true, Int.natCast_nonneg, if_true, Int.toNat_natCast, hy, Option.bind_some, beq_self_eq_true, Bool.and_self, Bool.not_true, cond_false]
    rw [wrap_ok (by omega) (by omega)]⟩) (fun n s _ => by rw [e_L_laws_sameItems_1]; simp) (by rw [maxLen_eq]; omega) () trivial
  rw [e_T_laws_sameItems, beq_self_eq_true, Bool.not_true, cond_false, h2]; rfl
theorem x_DrawReadBundle {a : List Int} (ha : a.length ≤ 1048576) : ∃ s, T_spec_DrawReadBundle a = some s ∧ s.length ≤ 20000 := by
  obtain ⟨h, h1⟩ := x_New ha
  obtain ⟨k1, k2, k3, f, b1, c1, h2, p1, hf⟩ := x_AnyBundle (c := h) ha (Int.le_refl 0)
  obtain ⟨v, S, _, _, s1, _, _, s3⟩ := x_BundleText (a := k1) (b := k2) (c := k3) (d := f) (by omega)
  obtain ⟨o, b2, c2, h3, p2⟩ := x_Once (c := c1) (n := 3) ha p1 (by omega)
  rw [e_T_spec_DrawReadBundle, h1]
  simp only [Option.bind_some]
  rw [h2]
  simp only [Option.bind_some]
  rw [s1]
  simp only [Option.bind_some]
  rw [h3]
  simp only [Option.bind_some]
  cases o with
  | true =>
    have hu := (x_Unsealed (a := S) (by omega)).1
    have hul : (unS S).1.length ≤ 10004 := by
      unfold unS
      split
      · simp only [List.length_take]; omega
      · simp
    rw [cond_true, hu]
    simp only [Option.bind_some]
    cases (unS S).2 with
    | true =>
      obtain ⟨t, b3, c3, m1, m2, m3⟩ := x_SpoiltA (c := c2) (d := (unS S).1) ha p2 hul (by omega)
      rw [cond_true, m1]
      simp only [Option.bind_some]
      rw [(x_Sealed (by omega)).1]
      exact ⟨_, rfl, by rw [List.length_append, four_len]; omega⟩
    | false => exact ⟨S, rfl, by omega⟩
  | false =>
    obtain ⟨t, b3, c3, m1, m2, m3⟩ := x_SpoiltA (c := c2) (d := S) ha p2 s3 (by omega)
    rw [cond_false, m1]
    exact ⟨t, rfl, by omega⟩
theorem law_FnBundles (a : List Int) (h : (ET.sl false (.int .u8)).ok a) : T_laws_FnBundles a = some true := by
  rw [e_T_laws_FnBundles, e_T_laws_big]
  by_cases h1 : 1048576 < (a.length : Int)
  · simp [h1]
  · have ha : a.length ≤ 1048576 := by omega
    obtain ⟨h, n1⟩ := x_New ha
    obtain ⟨k1, k2, k3, f, b1, c1, n2, p1, hf⟩ := x_AnyBundle (c := h) ha (Int.le_refl 0)
    obtain ⟨v, S, t1, t2, t3, t4, t5, t6⟩ := x_BundleText (a := k1) (b := k2) (c := k3) (d := f) (by omega)
    have hd : T_spec_DrawBundleText a = some (k1, k2, k3, f) := by
      rw [e_T_spec_DrawBundleText, n1]
      simp only [Option.bind_some]
      rw [n2]; rfl
    obtain ⟨⟨⟨y1, y2, y3, y6⟩, y7⟩, r1, r2, r3, r4⟩ := r_ReadBundle (x := S) (by omega)
    obtain ⟨x, d1, d2⟩ := x_DrawReadBundle ha
    obtain ⟨⟨⟨z1, z2, z3, z6⟩, z7⟩, q1, q2, q3, q4⟩ := r_ReadBundle (x := x) (by omega)
    have hz : z6.length ≤ 100 := q3.1
    obtain ⟨v', S', u1, u2, u3, u4, u5, u6⟩ := x_BundleText (a := z1) (b := z2) (c := z3) (d := z6) (by omega)
    have fin : (bif z7 == z7 then bif !z7 then some true else some (S' == x) else some false) = some true := by
      rw [beq_self_eq_true, cond_true]
      cases z7 with
      | false => rfl
      | true =>
        have := q4 rfl
        rw [u3] at this
        simp only [Option.some.injEq, Prod.mk.injEq] at this
        rw [this.1, beq_self_eq_true]; rfl
    rw [decide_eq_false h1]
    simp only [Option.bind_some, cond_false, hd, t4, r2, t1, t2, t3]
    cases v with
    | false =>
      simp only [beq_self_eq_true, Bool.not_true, cond_false, Option.bind_some, Sum.elim_inl, d1, q2, q1, u4]
      simpa only [beq_self_eq_true, cond_true] using fin
    | true =>
      have t5' := t5 rfl
      rw [r2] at t5'
      simp only [Option.some.injEq, Prod.mk.injEq] at t5'
      obtain ⟨⟨rfl, rfl, rfl, rfl⟩, rfl⟩ := t5'
      simp only [Bool.not_true, beq_self_eq_true, cond_false, cond_true, Option.bind_some, Sum.elim_inl, x_sameItems (show y6.length ≤ 1048576 by omega), d1, q2, q1, u4]
      simpa only [beq_self_eq_true, cond_true] using fin
end Xs
end Go.Proofs.Ytlblgfhdndpmfaa
