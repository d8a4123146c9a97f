/- What the reference's function answers, and the program's: the same. -/
import Derived.Test.YtlblgfhdndpmfaaT9
import Derived.Test.YtlblgfhdndpmfaaXItemsE
namespace Go.Proofs.Ytlblgfhdndpmfaa
open Go Vm
set_option linter.unusedVariables false
set_option linter.unusedSimpArgs false
namespace Xs
theorem small_len {s : List UInt8} (h : ET.str.small s) : s.length ≤ maxLen := Nat.le_trans h (by decide)
theorem smallL_len {e : ET} {o : Bool} {s : List e.den} (h : (ET.sl o e).small s) : s.length ≤ maxLen := Nat.le_trans h.1 (by decide)
theorem x_inRange (a b c : Int) : T_spec_l01In (a, b, c) = some (decide (b ≤ a ∧ a ≤ c)) ∧ T_impl_inRange (a, b, c) = some (decide (b ≤ a ∧ a ≤ c)) := by
  rw [e_T_spec_l01In, e_T_impl_inRange]
  by_cases h : b ≤ a <;> simp [h]
theorem x_isLevel (a : Int) : T_impl_isLevel a = some (a == 1 || a == 2) := by
  rw [e_T_impl_isLevel]; cases a == 1 <;> rfl
/-- A number's bytes: seven bits each, the low ones first. -/
def vEnc (n : Nat) : List UInt8 := if 127 < n then UInt8.ofNat (n % 128 + 128) :: vEnc (n / 128) else [UInt8.ofNat n]
theorem vEnc_hi {n : Nat} (h : 127 < n) : vEnc n = UInt8.ofNat (n % 128 + 128) :: vEnc (n / 128) := by rw [vEnc, if_pos h]
theorem vEnc_lo {n : Nat} (h : n ≤ 127) : vEnc n = [UInt8.ofNat n] := by rw [vEnc, if_neg (by omega)]
theorem u8w {n : Int} (h0 : 0 ≤ n) (h1 : n < 256) : IntKind.u8.wrap n = n := by
  rw [IntKind.wrap_u8]; omega
theorem vEnc_len : ∀ n : Nat, (vEnc n).length ≤ n + 1 := by
  intro n
  induction n using Nat.strongRecOn with
  | _ n ih =>
    by_cases h : 127 < n
    · rw [vEnc_hi h]
      have := ih (n / 128) (by omega)
      simp only [List.length_cons]; omega
    · rw [vEnc_lo (by omega)]; simp
theorem l_var : ∀ (k n : Nat) (b : List Int), k < n → b.length + k ≤ 4294967296 → ∃ (k' : Nat) (b' : List Int), L_spec_l01Var_1 n ((k : Int), b) = some (.inl ((k' : Int), b')) ∧ k' ≤ 127 ∧ b'.length ≤ b.length + k ∧ b'.map (fun x => UInt8.ofNat x.toNat) ++ [UInt8.ofNat k'] = b.map (fun x => UInt8.ofNat x.toNat) ++ vEnc k := by
  intro k
  induction k using Nat.strongRecOn with
  | _ k ih =>
    intro n b hn hb
    obtain ⟨m, rfl⟩ : ∃ m, n = m + 1 := ⟨n - 1, by omega⟩
    rw [e_L_spec_l01Var_1]
    by_cases h : 127 < k
    · have h1 : (127 : Int) < (k : Int) := by omega
      have e1 : IntKind.i64.wrap ((k : Int).tmod 128 + 128) = ((k % 128 + 128 : Nat) : Int) := by
        rw [Int.tmod_eq_emod_of_nonneg (by omega), wrap_ok (by omega) (by omega)]; omega
      have e2 : IntKind.i64.wrap ((k : Int).tdiv 128) = ((k / 128 : Nat) : Int) := by
        rw [Int.tdiv_eq_ediv_of_nonneg (by omega), wrap_ok (by omega) (by omega)]; omega
      simp only [h1, decide_true, cond_true, e1, e2, List.length_singleton]
      rw [if_pos (by omega), u8w (by omega) (by omega)]
      obtain ⟨k', b', h2, h3, h4, h5⟩ := ih (k / 128) (by omega) m (b.append [((k % 128 + 128 : Nat) : Int)]) (by omega) (by simp; omega)
      refine ⟨k', b', h2, h3, by simp at h4; omega, ?_⟩
      rw [h5, vEnc_hi h]
      simp only [List.append_eq, List.map_append, List.map_cons, List.map_nil, Int.toNat_natCast, List.append_assoc, List.cons_append, List.nil_append]
    · have h1 : ¬ (127 : Int) < (k : Int) := by omega
      simp only [h1, decide_false, cond_false]
      exact ⟨k, b, rfl, by omega, by omega, by rw [vEnc_lo (by omega)]⟩
theorem v_l01Var {a : Int} (h0 : 0 ≤ a) (h1 : a ≤ 2147483648) : T_spec_l01Var a = some (vEnc a.toNat) := by
  obtain ⟨k, rfl⟩ : ∃ k : Nat, a = (k : Int) := ⟨a.toNat, by omega⟩
  rw [e_T_spec_l01Var]
  obtain ⟨k', b', h2, h3, h4, h5⟩ := l_var k fuel [] (by simp only [fuel]; omega) (by simp; omega)
  rw [h2]
  simp only [Option.bind_some, Sum.elim_inl]
  simp at h4
  rw [if_pos (by simp; omega), u8w (by omega) (by omega)]
  simp only [List.map_nil, List.nil_append] at h5
  simp only [Option.some.injEq, Int.toNat_natCast]
  rw [← h5]
  simp
/-- A number off the front of bytes. -/
def rvS : Nat → Nat → Nat → Nat → List UInt8 → Option (Nat × Nat)
  | 0, _, _, _, _ => none
  | _ + 1, _, _, _, [] => none
  | k + 1, i, acc, m, c :: t => if c.toNat < 128 then (if (c.toNat = 0 ∧ 0 < i) ∨ 1000000000 < acc + c.toNat * m then none else some (acc + c.toNat * m, i + 1))
    else rvS k (i + 1) (acc + (c.toNat - 128) * m) (m * 128) t
/-- How it is told: the number, where it ends, whether it is right. -/
def outV (b : Nat) : Option (Nat × Nat) → Int × Int × Bool
  | none => (0, 0, false)
  | some (v, n) => ((v : Int), ((b + n : Nat) : Int), true)
theorem getD_at {a : List UInt8} {i : Nat} (h : i < a.length) : a.getD i 0 = a[i] := by simp [List.getD_eq_getElem?_getD, h]
theorem u8lt (c : UInt8) : c.toNat < 256 := c.toNat_lt
theorem l_implVar : ∀ (k e acc m b j : Nat) (a : List UInt8), k + e = 5 → m = 128 ^ e → acc < m → b ≤ a.length → a.length ≤ 4294967296 → ∃ q, L_impl_ReadVar_1 (k + 1 + j) (a, (b : Int), (acc : Int), (m : Int), (e : Int)) = some q ∧ Sum.elim (fun _ => ((0 : Int), (0 : Int), false)) (fun v => v) q = outV b (rvS k e acc m (a.drop (b + e))) := by
  intro k
  induction k with
  | zero =>
    intro e acc m b j a hk hm hacc hb ha
    have he : e = 5 := by omega
    subst he
    rw [show 0 + 1 + j = j + 1 by omega, e_L_impl_ReadVar_1]
    exact ⟨.inl (), rfl, rfl⟩
  | succ k ih =>
    intro e acc m b j a hk hm hacc hb ha
    have he : e ≤ 4 := by omega
    have hmB : m ≤ 268435456 := by
      rw [hm]; exact Nat.le_trans (Nat.pow_le_pow_right (by decide) he) (by decide)
    rw [show k + 1 + 1 + j = (k + 1 + j) + 1 by omega, e_L_impl_ReadVar_1]
    have e1 : ((e : Int) < 5) := by omega
    have w1 : IntKind.i64.wrap ((b : Int) + (e : Int)) = ((b + e : Nat) : Int) := by rw [wrap_ok (by omega) (by omega)]; omega
    simp only [e1, decide_true, cond_true, w1, Option.bind_some, Sum.elim_inl]
    by_cases hlt : b + e < a.length
    · have h2 : ((b + e : Nat) : Int) < (a.length : Int) := by omega
      have hd : a.drop (b + e) = a[b + e] :: a.drop (b + e + 1) := by rw [List.drop_eq_getElem_cons hlt]
      have hc := u8lt a[b + e]
      rw [hd]
      generalize hcc : a[b + e] = c at *
      have w2 : IntKind.i64.wrap (c.toNat : Int) = (c.toNat : Int) := wrap_ok (by omega) (by omega)
      simp only [h2, decide_true, cond_true, Int.natCast_nonneg, if_true, Int.toNat_natCast, getD_at hlt, hcc, w2]
      by_cases hs : c.toNat < 128
      · have hp : c.toNat * m < 128 * m := by
          have := Nat.mul_lt_mul_of_pos_right hs (show 0 < m by rw [hm]; exact Nat.pow_pos (by decide))
          exact this
        have e2 : ¬ (128 : Int) ≤ (c.toNat : Int) := by omega
        have w3 : IntKind.i64.wrap ((acc : Int) + IntKind.i64.wrap ((c.toNat : Int).tmod 128 * (m : Int))) = ((acc + c.toNat * m : Nat) : Int) := by
          rw [Int.tmod_eq_emod_of_nonneg (by omega), Int.emod_eq_of_lt (by omega) (by omega), wrap_ok (n := (c.toNat : Int) * (m : Int)) (by omega) (by omega), wrap_ok (by omega) (by omega)]; omega
        have w4 : IntKind.i64.wrap (IntKind.i64.wrap ((b : Int) + (e : Int)) + 1) = ((b + (e + 1) : Nat) : Int) := by
          rw [w1, wrap_ok (by omega) (by omega)]; omega
        rw [w1] at w4
        have e3 : ((c.toNat : Int) == 0) = decide (c.toNat = 0) := by
          by_cases h : c.toNat = 0 <;> simp [h]
        have e4 : (decide ((0 : Int) < (e : Int))) = decide (0 < e) := by
          by_cases h : 0 < e <;> simp [h]
        have e5 : (decide ((1000000000 : Int) < ((acc + c.toNat * m : Nat) : Int))) = decide (1000000000 < acc + c.toNat * m) := by
          by_cases h : 1000000000 < acc + c.toNat * m
          · rw [decide_eq_true h, decide_eq_true (by omega)]
          · rw [decide_eq_false h, decide_eq_false (by omega)]
        simp only [e2, decide_false, cond_false, w3, e3, e4, e5, bif_bind, Option.bind_some, Sum.elim_inl, w1, w4, rvS, hs, if_true]
        by_cases hz : c.toNat = 0 <;> by_cases he0 : 0 < e <;> by_cases hbig : 1000000000 < acc + c.toNat * m <;> simp only [hz, he0, hbig, decide_true, decide_false, cond_true, cond_false, and_true, and_false, true_and, false_and, true_or, or_true, false_or, or_false, if_true, if_false] <;>
          first
          | exact ⟨_, rfl, rfl⟩
          | (simp only [hz] at hbig; simp only [hbig, decide_true, decide_false, cond_true, cond_false, if_true, if_false]; exact ⟨_, rfl, rfl⟩)
      · have hp : (c.toNat - 128) * m ≤ 127 * m := Nat.mul_le_mul_right _ (by omega)
        have e2 : (128 : Int) ≤ (c.toNat : Int) := by omega
        have hcm : ((c.toNat : Int).tmod 128 * (m : Int)) = (((c.toNat - 128) * m : Nat) : Int) := by
          rw [Int.tmod_eq_emod_of_nonneg (by omega), show (c.toNat : Int) % 128 = ((c.toNat - 128 : Nat) : Int) by omega, Int.natCast_mul]
        have w3 : IntKind.i64.wrap ((acc : Int) + IntKind.i64.wrap ((c.toNat : Int).tmod 128 * (m : Int))) = ((acc + (c.toNat - 128) * m : Nat) : Int) := by
          rw [hcm, wrap_ok (n := (((c.toNat - 128) * m : Nat) : Int)) (by omega) (by omega), wrap_ok (by omega) (by omega)]; omega
        have w4 : IntKind.i64.wrap ((m : Int) * 128) = ((m * 128 : Nat) : Int) := by rw [wrap_ok (by omega) (by omega)]; omega
        have w5 : IntKind.i64.wrap ((e : Int) + 1) = ((e + 1 : Nat) : Int) := by rw [wrap_ok (by omega) (by omega)]; omega
        simp only [e2, decide_true, cond_true, w3, w4, w5, rvS, hs, if_false]
        exact ih (e + 1) (acc + (c.toNat - 128) * m) (m * 128) b j a (by omega) (by rw [hm, Nat.pow_succ]) (by omega) hb ha
    · have h2 : ¬ ((b + e : Nat) : Int) < (a.length : Int) := by omega
      simp only [h2, decide_false, cond_false]
      rw [List.drop_eq_nil_of_le (by omega)]
      exact ⟨.inl (), rfl, rfl⟩
theorem v_implVar {a : List UInt8} {b : Nat} (hb : b ≤ a.length) (ha : a.length ≤ 4294967296) : T_impl_ReadVar (a, (b : Int)) = some (outV b (rvS 5 0 0 1 (a.drop b))) := by
  rw [e_T_impl_ReadVar]
  have h1 : ¬ (b : Int) < 0 := by omega
  have h2 : ¬ (a.length : Int) < (b : Int) := by omega
  obtain ⟨q, h3, h4⟩ := l_implVar 5 0 0 1 b 18446744073709551610 a rfl rfl (by decide) hb ha
  simp only [Nat.add_zero, Int.natCast_zero, Int.natCast_one] at h3 h4
  have h5 : L_impl_ReadVar_1 fuel (a, (b : Int), 0, 1, 0) = some q := h3
  simp only [h1, h2, decide_false, cond_false, Option.bind_some, Sum.elim_inl, h5]
  rw [← h4]
  cases q <;> rfl
theorem rvS_bound : ∀ (k i acc m : Nat) (t : List UInt8) (v n : Nat), rvS k i acc m t = some (v, n) → v ≤ 1000000000 ∧ i < n ∧ n ≤ i + t.length
  | 0, _, _, _, _, _, _, h => by simp [rvS] at h
  | _ + 1, _, _, _, [], _, _, h => by simp [rvS] at h
  | k + 1, i, acc, m, c :: t, v, n, h => by
    simp only [rvS] at h
    split at h
    · split at h
      · cases h
      · cases h; simp; omega
    · have := rvS_bound k _ _ _ t v n h
      simp; omega
/-- What bytes tell, if they are right: the value of the bytes ahead of an end. -/
def vVal : List UInt8 → Nat
  | [] => 0
  | c :: t => c.toNat % 128 + 128 * vVal t
/-- Bytes that are a number's, but for the last one's being 0. -/
def vFit : List UInt8 → Prop
  | [] => False
  | [c] => c.toNat < 128
  | c :: t => 128 ≤ c.toNat ∧ vFit t
theorem vFit_cons {c : UInt8} {t : List UInt8} (h : t ≠ []) : vFit (c :: t) ↔ 128 ≤ c.toNat ∧ vFit t := by
  cases t with
  | nil => exact absurd rfl h
  | cons x l => exact Iff.rfl
theorem vEnc_ne (n : Nat) : vEnc n ≠ [] := by
  by_cases h : 127 < n
  · rw [vEnc_hi h]; simp
  · rw [vEnc_lo (by omega)]; simp
theorem byte_of {c : UInt8} {n : Nat} (h : c.toNat = n) : UInt8.ofNat n = c := by rw [← h]; simp
theorem vEnc_last : ∀ (n : Nat), ∃ l c, vEnc n = l ++ [c] ∧ (l ≠ [] → c.toNat ≠ 0) := by
  intro n
  induction n using Nat.strongRecOn with
  | _ n ih =>
    by_cases h : 127 < n
    · obtain ⟨l, c, h1, h2⟩ := ih (n / 128) (by omega)
      rw [vEnc_hi h]
      refine ⟨UInt8.ofNat (n % 128 + 128) :: l, c, by rw [h1]; rfl, fun _ => ?_⟩
      by_cases hl : l = []
      · subst hl
        by_cases h3 : 127 < n / 128
        · rw [vEnc_hi h3] at h1
          have := vEnc_ne (n / 128 / 128)
          simp at h1
          exact absurd h1.2 this
        · rw [vEnc_lo (by omega)] at h1
          simp at h1
          rw [← h1]
          simp; omega
      · exact h2 hl
    · rw [vEnc_lo (by omega)]
      exact ⟨[], _, rfl, fun h => absurd rfl h⟩
/-- Right bytes are those that their value's are. -/
theorem vEnc_val : ∀ (t : List UInt8), vFit t → (t.length = 1 ∨ t.getLast?.map UInt8.toNat ≠ some 0) → vEnc (vVal t) = t ∧ (1 < t.length → 0 < vVal t)
  | [], h, _ => h.elim
  | [c], h, _ => by
    have h' : c.toNat < 128 := h
    simp only [vVal, Nat.mul_zero, Nat.add_zero]
    rw [Nat.mod_eq_of_lt h', vEnc_lo (by omega)]
    exact ⟨by rw [byte_of rfl], fun h => by simp at h⟩
  | c :: d :: t, h, hl => by
    obtain ⟨h1, h2⟩ := (vFit_cons (by simp)).1 h
    have hl' : (d :: t).getLast?.map UInt8.toNat ≠ some 0 := by
      rcases hl with hl | hl
      · simp at hl
      · simpa using hl
    obtain ⟨h3, h4⟩ := vEnc_val (d :: t) h2 (.inr hl')
    have hp : 0 < vVal (d :: t) := by
      cases t with
      | nil =>
        simp at hl'
        have h5 : d.toNat < 128 := h2
        simp only [vVal]; omega
      | cons x l => exact h4 (by simp)
    have hc := u8lt c
    simp only [vVal] at hp ⊢
    rw [vEnc_hi (by omega)]
    refine ⟨?_, fun _ => by omega⟩
    rw [show (c.toNat % 128 + 128 * (d.toNat % 128 + 128 * vVal t)) / 128 = d.toNat % 128 + 128 * vVal t by omega]
    rw [show vEnc (d.toNat % 128 + 128 * vVal t) = d :: t from h3, byte_of (c := c) (by omega)]
theorem vEnc_fit : ∀ n : Nat, vFit (vEnc n) ∧ vVal (vEnc n) = n := by
  intro n
  induction n using Nat.strongRecOn with
  | _ n ih =>
    by_cases h : 127 < n
    · obtain ⟨h1, h2⟩ := ih (n / 128) (by omega)
      rw [vEnc_hi h]
      have hb : (UInt8.ofNat (n % 128 + 128)).toNat = n % 128 + 128 := by simp; omega
      refine ⟨(vFit_cons (vEnc_ne _)).2 ⟨by omega, h1⟩, ?_⟩
      simp only [vVal, h2, hb]; omega
    · rw [vEnc_lo (by omega)]
      have hb : (UInt8.ofNat n).toNat = n := by simp; omega
      refine ⟨by simp only [vFit, hb]; omega, ?_⟩
      simp only [vVal, hb]; omega
theorem vVal_app : ∀ (p : List UInt8) (c : UInt8), vVal (p ++ [c]) = vVal p + c.toNat % 128 * 128 ^ p.length
  | [], c => by simp [vVal]
  | x :: p, c => by
    simp only [List.cons_append, vVal, vVal_app p c, List.length_cons, Nat.pow_succ]
    rw [Nat.mul_add, Nat.add_assoc, Nat.mul_comm (128 ^ p.length) 128, ← Nat.mul_assoc, ← Nat.mul_assoc, Nat.mul_comm (c.toNat % 128) 128]
theorem vFit_app : ∀ (p : List UInt8) (c : UInt8), (∀ x ∈ p, 128 ≤ x.toNat) → c.toNat < 128 → vFit (p ++ [c])
  | [], c, _, h => h
  | x :: p, c, hp, h => by
    rw [List.cons_append]
    exact (vFit_cons (by simp)).2 ⟨hp x (by simp), vFit_app p c (fun y hy => hp y (by simp [hy])) h⟩
theorem v_canon {p : List UInt8} {c : UInt8} (hp : ∀ x ∈ p, 128 ≤ x.toNat) (hc : c.toNat < 128) : (vEnc (vVal (p ++ [c])) == p ++ [c]) = !decide (c.toNat = 0 ∧ 0 < p.length) := by
  by_cases h : c.toNat = 0 ∧ 0 < p.length
  · rw [decide_eq_true h]
    obtain ⟨l, d, h1, h2⟩ := vEnc_last (vVal (p ++ [c]))
    rw [Bool.not_true, beq_eq_false_iff_ne]
    intro he
    rw [h1] at he
    have h3 := List.append_inj' he rfl
    have h4 : d = c := by simpa using h3.2
    subst h4
    exact h2 (fun hl => by rw [h3.1] at hl; subst hl; simp at h) h.1
  · rw [decide_eq_false h]
    have := (vEnc_val (p ++ [c]) (vFit_app p c hp hc) (by
      by_cases hl : p = []
      · subst hl; exact .inl rfl
      · refine .inr ?_
        have : 0 < p.length := by cases p with | nil => exact absurd rfl hl | cons => simp
        simp; omega)).1
    rw [this]; simp
theorem l_specVar : ∀ (k e acc m b j : Nat) (a p : List UInt8), k + e = 5 → m = 128 ^ e → p = (a.drop b).take e → p.length = e → (∀ x ∈ p, 128 ≤ x.toNat) → acc = vVal p → acc < m → b ≤ a.length → a.length ≤ 4294967296 → ∃ q, L_spec_ReadVar_1 (k + 1 + j) (a, (b : Int), (acc : Int), (m : Int), ((b + e : Nat) : Int)) = some q ∧ Sum.elim (fun _ => ((0 : Int), (0 : Int), false)) (fun v => v) q = outV b (rvS k e acc m (a.drop (b + e))) := by
  intro k
  induction k with
  | zero =>
    intro e acc m b j a p hk hm hp hpl hp8 hv hacc hb ha
    have he : e = 5 := by omega
    subst he
    rw [show 0 + 1 + j = j + 1 by omega, e_L_spec_ReadVar_1]
    have w1 : IntKind.i64.wrap ((b : Int) + 5) = ((b + 5 : Nat) : Int) := by rw [wrap_ok (by omega) (by omega)]; omega
    simp only [w1, bif_bind, Option.bind_some, Sum.elim_inl, show ¬ ((b + 5 : Nat) : Int) < ((b + 5 : Nat) : Int) by omega, decide_false, cond_false]
    cases decide (((b + 5 : Nat) : Int) < (a.length : Int)) <;> exact ⟨_, rfl, rfl⟩
  | succ k ih =>
    intro e acc m b j a p hk hm hp hpl hp8 hv hacc hb ha
    have he : e ≤ 4 := by omega
    have hmB : m ≤ 268435456 := by
      rw [hm]; exact Nat.le_trans (Nat.pow_le_pow_right (by decide) he) (by decide)
    rw [show k + 1 + 1 + j = (k + 1 + j) + 1 by omega, e_L_spec_ReadVar_1]
    have w1 : IntKind.i64.wrap ((b : Int) + 5) = ((b + 5 : Nat) : Int) := by rw [wrap_ok (by omega) (by omega)]; omega
    have e1 : ((b + e : Nat) : Int) < ((b + 5 : Nat) : Int) := by omega
    by_cases hlt : b + e < a.length
    · have h2 : ((b + e : Nat) : Int) < (a.length : Int) := by omega
      have hd : a.drop (b + e) = a[b + e] :: a.drop (b + e + 1) := by rw [List.drop_eq_getElem_cons hlt]
      have hc := u8lt a[b + e]
      have hsub : (a.drop b).take (e + 1) = p ++ [a[b + e]] := by
        rw [List.take_add_one, ← hp, List.getElem?_drop, List.getElem?_eq_getElem hlt]; rfl
      rw [hd]
      generalize hcc : a[b + e] = c at *
      have w2 : IntKind.i64.wrap (c.toNat : Int) = (c.toNat : Int) := wrap_ok (by omega) (by omega)
      have w4 : IntKind.i64.wrap (((b + e : Nat) : Int) + 1) = ((b + (e + 1) : Nat) : Int) := by
        rw [wrap_ok (by omega) (by omega)]; omega
      simp only [h2, w1, e1, decide_true, cond_true, Option.bind_some, Sum.elim_inl, Int.natCast_nonneg, if_true, Int.toNat_natCast, getD_at hlt, hcc, w2, w4]
      by_cases hs : c.toNat < 128
      · have hp2 : c.toNat * m < 128 * m := Nat.mul_lt_mul_of_pos_right hs (show 0 < m by rw [hm]; exact Nat.pow_pos (by decide))
        have e2 : (c.toNat : Int) < 128 := by omega
        have w3 : IntKind.i64.wrap ((acc : Int) + IntKind.i64.wrap ((c.toNat : Int).tmod 128 * (m : Int))) = ((acc + c.toNat * m : Nat) : Int) := by
          rw [Int.tmod_eq_emod_of_nonneg (by omega), Int.emod_eq_of_lt (by omega) (by omega), wrap_ok (n := (c.toNat : Int) * (m : Int)) (by omega) (by omega), wrap_ok (by omega) (by omega)]; omega
        have hval : vVal (p ++ [c]) = acc + c.toNat * m := by
          rw [vVal_app, Nat.mod_eq_of_lt hs, hpl, ← hm, hv]
        simp only [e2, decide_true, cond_true, w3, rvS, hs, if_true]
        by_cases hbig : 1000000000 < acc + c.toNat * m
        · have e5 : (1000000000 : Int) < ((acc + c.toNat * m : Nat) : Int) := by omega
          simp only [e5, hbig, decide_true, cond_true, Option.bind_some, Sum.elim_inl, or_true, if_true]
          exact ⟨_, rfl, rfl⟩
        · have e5 : ¬ (1000000000 : Int) < ((acc + c.toNat * m : Nat) : Int) := by omega
          have g1 : ((b + (e + 1) : Nat) : Int) ≤ (a.length : Int) := by omega
          have g2 : (b : Int) ≤ ((b + (e + 1) : Nat) : Int) := by omega
          simp only [e5, g1, g2, and_self, true_and, if_true, decide_false, cond_false, v_l01Var (a := ((acc + c.toNat * m : Nat) : Int)) (by omega) (by omega), Option.bind_some, Sum.elim_inl, Int.toNat_natCast]
          rw [List.drop_take, show b + (e + 1) - b = e + 1 by omega, hsub, ← hval, v_canon hp8 hs, hpl]
          by_cases hz : c.toNat = 0 ∧ 0 < e
          · simp only [hz, and_self, decide_true, Bool.not_true, Bool.not_false, cond_true, true_or, if_true]
            exact ⟨_, rfl, rfl⟩
          · rw [if_neg (by rw [hval]; omega)]
            simp only [hz, decide_false, Bool.not_true, Bool.not_false, cond_false]
            exact ⟨_, rfl, by simp only [Sum.elim_inr, outV]; rw [w4]⟩
      · have hp2 : (c.toNat - 128) * m ≤ 127 * m := Nat.mul_le_mul_right _ (by omega)
        have e2 : ¬ (c.toNat : Int) < 128 := by omega
        have hcm : ((c.toNat : Int).tmod 128 * (m : Int)) = (((c.toNat - 128) * m : Nat) : Int) := by
          rw [Int.tmod_eq_emod_of_nonneg (by omega), show (c.toNat : Int) % 128 = ((c.toNat - 128 : Nat) : Int) by omega, Int.natCast_mul]
        have w3 : IntKind.i64.wrap ((acc : Int) + IntKind.i64.wrap ((c.toNat : Int).tmod 128 * (m : Int))) = ((acc + (c.toNat - 128) * m : Nat) : Int) := by
          rw [hcm, wrap_ok (n := (((c.toNat - 128) * m : Nat) : Int)) (by omega) (by omega), wrap_ok (by omega) (by omega)]; omega
        have w5 : IntKind.i64.wrap ((m : Int) * 128) = ((m * 128 : Nat) : Int) := by rw [wrap_ok (by omega) (by omega)]; omega
        simp only [e2, decide_false, cond_false, w3, w5, rvS, hs, if_false]
        refine ih (e + 1) (acc + (c.toNat - 128) * m) (m * 128) b j a (p ++ [c]) (by omega) (by rw [hm, Nat.pow_succ]) hsub.symm (by simp [hpl]) (fun x hx => ?_) ?_ (by omega) hb ha
        · rcases List.mem_append.1 hx with hx | hx
          · exact hp8 x hx
          · simp at hx; subst hx; omega
        · rw [vVal_app, hpl, ← hm, hv, show c.toNat % 128 = c.toNat - 128 by omega]
    · have h2 : ¬ ((b + e : Nat) : Int) < (a.length : Int) := by omega
      simp only [h2, decide_false, cond_false, Option.bind_some, Sum.elim_inl]
      rw [List.drop_eq_nil_of_le (by omega)]
      exact ⟨.inl (), rfl, rfl⟩
theorem v_specVar {a : List UInt8} {b : Nat} (hb : b ≤ a.length) (ha : a.length ≤ 4294967296) : T_spec_ReadVar (a, (b : Int)) = some (outV b (rvS 5 0 0 1 (a.drop b))) := by
  rw [e_T_spec_ReadVar, e_T_spec_l01In]
  have h1 : (0 : Int) ≤ (b : Int) := by omega
  have h2 : (b : Int) ≤ (a.length : Int) := by omega
  obtain ⟨q, h3, h4⟩ := l_specVar 5 0 0 1 b 18446744073709551610 a [] rfl rfl (by simp) rfl (by simp) rfl (by decide) hb ha
  simp only [Nat.add_zero, Int.natCast_zero, Int.natCast_one] at h3 h4
  have h5 : L_spec_ReadVar_1 fuel (a, (b : Int), 0, 1, (b : Int)) = some q := h3
  simp only [h1, h2, decide_true, cond_true, Bool.not_true, cond_false, Option.bind_some, Sum.elim_inl, h5]
  rw [← h4]
  cases q <;> rfl
/-- What is read is what its number's bytes are. -/
theorem rvS_enc : ∀ (k i acc m : Nat) (t p : List UInt8), k + i = 5 → p.length = i → (∀ x ∈ p, 128 ≤ x.toNat) → acc = vVal p → m = 128 ^ i → ∀ v n, rvS k i acc m t = some (v, n) → ∃ q, t = q ++ t.drop (n - i) ∧ q.length = n - i ∧ p ++ q = vEnc v
  | 0, _, _, _, _, _, _, _, _, _, _, v, n, h => by simp [rvS] at h
  | _ + 1, _, _, _, [], _, _, _, _, _, _, v, n, h => by simp [rvS] at h
  | k + 1, i, acc, m, c :: t, p, hk, hpl, hp, hv, hm, v, n, h => by
    simp only [rvS] at h
    split at h
    · rename_i hs
      split at h
      · cases h
      · rename_i hz
        cases h
        refine ⟨[c], by simp, by simp, ?_⟩
        have h1 : vVal (p ++ [c]) = acc + c.toNat * m := by rw [vVal_app, Nat.mod_eq_of_lt hs, hpl, ← hm, hv]
        have h2 := v_canon hp hs
        rw [decide_eq_false (by rw [hpl]; omega), Bool.not_false, beq_iff_eq, h1] at h2
        exact h2.symm
    · rename_i hs
      have hc := u8lt c
      obtain ⟨q, h1, h2, h3⟩ := rvS_enc k (i + 1) _ _ t (p ++ [c]) (by omega) (by simp [hpl]) (fun x hx => by
        rcases List.mem_append.1 hx with hx | hx
        · exact hp x hx
        · simp at hx; subst hx; omega) (by rw [vVal_app, hpl, ← hm, hv, show c.toNat % 128 = c.toNat - 128 by omega]) (by rw [hm, Nat.pow_succ]) v n h
      have hn := (rvS_bound _ _ _ _ _ _ _ h).2.1
      refine ⟨c :: q, ?_, by simp; omega, by rw [← h3]; simp⟩
      rw [show n - i = (n - (i + 1)) + 1 by omega, List.drop_succ_cons, List.cons_append, ← h1]
def numR (a : List UInt8) (p : Nat) (bad : Bool) : Int × List UInt8 × Int × Bool :=
  bif bad then (0, a, (p : Int), true) else match rvS 5 0 0 1 (a.drop p) with
    | none => (0, a, (p : Int), true)
    | some (v, n) => ((v : Int), a, ((p + n : Nat) : Int), false)
theorem n_impl {a : List UInt8} {p : Nat} {bad : Bool} (hp : p ≤ a.length) (ha : a.length ≤ 4294967296) : T___impl_scanner__number (a, (p : Int), bad) = some (numR a p bad) := by
  rw [e_T___impl_scanner__number, v_implVar hp ha]
  cases bad <;> simp only [numR, cond_true, cond_false, Option.bind_some, Sum.elim_inl]
  cases rvS 5 0 0 1 (a.drop p) with
  | none => rfl
  | some q => rfl
theorem n_spec {a : List UInt8} {p : Nat} {bad : Bool} (hp : p ≤ a.length) (ha : a.length ≤ 4294967296) : T_spec_l05Var (a, (p : Int), bad) = some (numR a p bad) := by
  rw [e_T_spec_l05Var, v_specVar hp ha]
  cases bad <;> simp only [numR, cond_true, cond_false, Option.bind_some, Sum.elim_inl]
  cases rvS 5 0 0 1 (a.drop p) with
  | none => rfl
  | some q => rfl
def takR (a : List UInt8) (p : Nat) (bad : Bool) (n : Nat) : List UInt8 × List UInt8 × Int × Bool :=
  bif bad || decide (a.length - p < n) then ([], a, (p : Int), true) else ((a.drop p).take n, a, ((p + n : Nat) : Int), false)
theorem t_impl {a : List UInt8} {p n : Nat} {bad : Bool} (hp : p ≤ a.length) (ha : a.length ≤ 4294967296) (hn : n ≤ 4294967296) : T___impl_scanner__take ((a, (p : Int), bad), (n : Int)) = some (takR a p bad n) := by
  rw [e_T___impl_scanner__take]
  have w1 : IntKind.i64.wrap ((a.length : Int) - (p : Int)) = ((a.length - p : Nat) : Int) := by rw [wrap_ok (by omega) (by omega)]; omega
  have w2 : IntKind.i64.wrap ((p : Int) + (n : Int)) = ((p + n : Nat) : Int) := by rw [wrap_ok (by omega) (by omega)]; omega
  have w3 : IntKind.i64.wrap (((p + n : Nat) : Int) - (n : Int)) = (p : Int) := by rw [wrap_ok (by omega) (by omega)]; omega
  cases bad
  · by_cases h : a.length - p < n
    · have h' : ((a.length - p : Nat) : Int) < (n : Int) := by omega
      simp only [takR, w1, h, h', decide_true, cond_true, cond_false, Bool.false_or, Option.bind_some, Sum.elim_inl]
    · have h' : ¬ ((a.length - p : Nat) : Int) < (n : Int) := by omega
      have g1 : ((p + n : Nat) : Int) ≤ (a.length : Int) := by omega
      have g2 : (p : Int) ≤ ((p + n : Nat) : Int) := by omega
      simp only [takR, w1, w2, w3, h, h', g1, g2, decide_false, cond_false, Bool.false_or, Option.bind_some, Sum.elim_inl, Int.natCast_nonneg, true_and, if_true, Int.toNat_natCast, List.drop_take, Nat.add_sub_cancel_left]
  · rfl
theorem t_spec {a : List UInt8} {p n : Nat} {bad : Bool} (hp : p ≤ a.length) (ha : a.length ≤ 4294967296) (hn : n ≤ 4294967296) : T_spec_l05Take ((a, (p : Int), bad), (n : Int)) = some (takR a p bad n) := by
  have := t_impl (bad := bad) hp ha hn
  rw [e_T___impl_scanner__take] at this
  rw [e_T_spec_l05Take]
  exact this
def oneR (a : List UInt8) (p : Nat) (bad : Bool) : Int × List UInt8 × Int × Bool :=
  bif bad then (0, a, (p : Int), true) else match a.drop p with
    | [] => (0, a, (p : Int), true)
    | c :: _ => ((c.toNat : Int), a, ((p + 1 : Nat) : Int), false)
theorem take_one {a : List UInt8} {p : Nat} (hp : p ≤ a.length) : (takR a p false 1) = match a.drop p with
    | [] => ([], a, (p : Int), true)
    | c :: _ => ([c], a, ((p + 1 : Nat) : Int), false) := by
  unfold takR
  have hl : (a.drop p).length = a.length - p := by simp
  cases hd : a.drop p with
  | nil =>
    rw [hd, List.length_nil] at hl
    have hq : a.length - p < 1 := by omega
    rw [decide_eq_true hq]; rfl
  | cons c t =>
    rw [hd] at hl; simp at hl
    have hq : ¬ a.length - p < 1 := by omega
    rw [decide_eq_false hq]; simp
theorem o_impl {a : List UInt8} {p : Nat} {bad : Bool} (hp : p ≤ a.length) (ha : a.length ≤ 4294967296) : T___impl_scanner__octet (a, (p : Int), bad) = some (oneR a p bad) := by
  rw [e_T___impl_scanner__octet, show (1 : Int) = ((1 : Nat) : Int) from rfl, t_impl hp ha (by decide)]
  cases bad
  · rw [take_one hp]
    unfold oneR
    cases a.drop p with
    | nil => rfl
    | cons c t =>
      have hc := u8lt c
      simp only [Option.bind_some, List.length_singleton, cond_false]
      simp only [show ([c] == ([] : List UInt8)) = false from rfl, cond_false]
      rw [if_pos (by decide)]
      simp only [List.getD_cons_zero]
      rw [wrap_ok (by omega) (by omega)]
  · rfl
theorem o_spec {a : List UInt8} {p : Nat} {bad : Bool} (hp : p ≤ a.length) (ha : a.length ≤ 4294967296) : T_spec_l05One (a, (p : Int), bad) = some (oneR a p bad) := by
  rw [e_T_spec_l05One, show (1 : Int) = ((1 : Nat) : Int) from rfl, t_spec hp ha (by decide)]
  cases bad
  · rw [take_one hp]
    unfold oneR
    cases a.drop p with
    | nil => rfl
    | cons c t =>
      have hc := u8lt c
      simp only [Option.bind_some, List.length_singleton, cond_false]
      rw [if_pos (by decide)]
      simp only [List.getD_cons_zero]
      rw [wrap_ok (by omega) (by omega)]
  · rfl
/-- A text with its length ahead; the program wants it short. -/
def shR (lim : Nat) (a : List UInt8) (p : Nat) (bad : Bool) : List UInt8 × List UInt8 × Int × Bool :=
  bif bad then ([], a, (p : Int), true) else match rvS 5 0 0 1 (a.drop p) with
    | none => ([], a, (p : Int), true)
    | some (v, n) => takR a (p + n) (decide (lim < v)) v
theorem rv_le {a : List UInt8} {p v n : Nat} (hp : p ≤ a.length) (h : rvS 5 0 0 1 (a.drop p) = some (v, n)) : v ≤ 1000000000 ∧ 0 < n ∧ p + n ≤ a.length := by
  have := rvS_bound _ _ _ _ _ _ _ h
  rw [List.length_drop] at this
  omega
theorem s_impl {a : List UInt8} {p : Nat} {bad : Bool} (hp : p ≤ a.length) (ha : a.length ≤ 4294967296) : T___impl_scanner__short (a, (p : Int), bad) = some (shR 20000 a p bad) := by
  rw [e_T___impl_scanner__short, n_impl hp ha]
  cases bad
  · simp only [numR, shR, cond_false, Option.bind_some]
    cases hr : rvS 5 0 0 1 (a.drop p) with
    | none =>
      simp only [show ¬ (20000 : Int) < 0 by decide, decide_false, cond_false, Option.bind_some, Sum.elim_inl]
      rw [show (0 : Int) = ((0 : Nat) : Int) from rfl, t_impl hp ha (by decide)]
      rfl
    | some q =>
      obtain ⟨v, n⟩ := q
      obtain ⟨h1, h2, h3⟩ := rv_le hp hr
      by_cases h : 20000 < v
      · have h' : (20000 : Int) < (v : Int) := by omega
        simp only [h, h', decide_true, cond_true, Option.bind_some, Sum.elim_inl]
        rw [t_impl h3 ha (by omega)]; rfl
      · have h' : ¬ (20000 : Int) < (v : Int) := by omega
        simp only [h, h', decide_false, cond_false, Option.bind_some, Sum.elim_inl]
        rw [t_impl h3 ha (by omega)]; rfl
  · simp only [numR, shR, cond_true, Option.bind_some, show ¬ (20000 : Int) < 0 by decide, decide_false, cond_false, Sum.elim_inl]
    rw [show (0 : Int) = ((0 : Nat) : Int) from rfl, t_impl hp ha (by decide)]
    rfl
theorem s_spec {a : List UInt8} {p : Nat} {bad : Bool} (hp : p ≤ a.length) (ha : a.length ≤ 4294967296) : T_spec_l05ReadShort (a, (p : Int), bad) = some (shR 1000000000 a p bad) := by
  rw [e_T_spec_l05ReadShort, n_spec hp ha]
  cases bad
  · simp only [numR, shR, cond_false, Option.bind_some]
    cases hr : rvS 5 0 0 1 (a.drop p) with
    | none =>
      simp only [Option.bind_some]
      rw [show (0 : Int) = ((0 : Nat) : Int) from rfl, t_spec hp ha (by decide)]
      rfl
    | some q =>
      obtain ⟨v, n⟩ := q
      obtain ⟨h1, h2, h3⟩ := rv_le hp hr
      simp only [Option.bind_some]
      have hv : ¬ 1000000000 < v := by omega
      rw [t_spec h3 ha (by omega), decide_eq_false hv]; rfl
  · simp only [numR, shR, cond_true, Option.bind_some]
    rw [show (0 : Int) = ((0 : Nat) : Int) from rfl, t_spec hp ha (by decide)]
    rfl
theorem v_byte {d : Int} (h0 : 0 ≤ d) (h1 : d < 256) : T_spec_l05Byte d = some [UInt8.ofNat d.toNat] := by
  rw [e_T_spec_l05Byte, u8w h0 h1]; rfl
theorem v_short {t : List UInt8} (h : t.length ≤ 1048576) : T_spec_l05Short t = some (vEnc t.length ++ t) := by
  rw [e_T_spec_l05Short, v_l01Var (by omega) (by omega)]
  have := vEnc_len t.length
  simp only [Option.bind_some, Int.toNat_natCast]
  rw [if_neg (by omega)]
theorem bad_num {a : List UInt8} {p : Nat} : numR a p true = (0, a, (p : Int), true) := rfl
theorem bad_one {a : List UInt8} {p : Nat} : oneR a p true = (0, a, (p : Int), true) := rfl
theorem bad_sh {a : List UInt8} {p n : Nat} : shR n a p true = ([], a, (p : Int), true) := rfl
theorem bad_tak {a : List UInt8} {p n : Nat} : takR a p true n = ([], a, (p : Int), true) := rfl
theorem num_enc {a : List UInt8} {p v n : Nat} (h : rvS 5 0 0 1 (a.drop p) = some (v, n)) : a.drop p = vEnc v ++ a.drop (p + n) := by
  obtain ⟨q, h1, h2, h3⟩ := rvS_enc 5 0 0 1 _ [] rfl rfl (by simp) rfl rfl v n h
  rw [List.nil_append] at h3
  rw [Nat.sub_zero, List.drop_drop, h3] at h1
  exact h1
/-- From p to p' the text reads t. -/
def Rd (a : List UInt8) (p p' : Nat) (t : List UInt8) : Prop := p' ≤ a.length ∧ a.drop p = t ++ a.drop p'
theorem Rd.refl {a : List UInt8} {p : Nat} (h : p ≤ a.length) : Rd a p p [] := ⟨h, rfl⟩
theorem Rd.trans {a s t : List UInt8} {p q r : Nat} (h1 : Rd a p q s) (h2 : Rd a q r t) : Rd a p r (s ++ t) := ⟨h2.1, by rw [h1.2, h2.2, List.append_assoc]⟩
theorem Rd.all {a t : List UInt8} {p : Nat} (h : Rd a 0 p t) : (t == a) = ((p : Int) == (a.length : Int)) := by
  obtain ⟨h1, h2⟩ := h
  rw [List.drop_zero] at h2
  by_cases hp : p = a.length
  · rw [List.drop_eq_nil_of_le (by omega), List.append_nil] at h2
    rw [← h2, hp]; simp
  · have h3 : ¬ t = a := fun e => by
      have := congrArg List.length h2
      rw [e] at this
      simp at this; omega
    rw [beq_eq_false_iff_ne.2 h3, beq_eq_false_iff_ne.2 (by omega)]
/-- A step of the reference and of the program beside each other. E: they agree; F: what alone the program refuses. -/
structure Stp (a : List UInt8) (p q : Nat) (bs bi : Bool) (p' q' : Nat) (bs' bi' : Bool) (t : List UInt8) (E F : Prop) : Prop where
  hp : p' ≤ a.length
  hq : q' ≤ a.length
  go : bi' = false → bi = false ∧ bs' = false ∧ q' = p' ∧ E
  rd : bs' = false → bs = false ∧ Rd a p p' t
  far : bs' = false → bi = false → bi' = true → F
theorem Stp.trans {a t1 t2 : List UInt8} {p q p1 q1 p2 q2 : Nat} {bs bi bs1 bi1 bs2 bi2 : Bool} {E1 E2 F1 F2 : Prop} (h1 : Stp a p q bs bi p1 q1 bs1 bi1 t1 E1 F1) (h2 : Stp a p1 q1 bs1 bi1 p2 q2 bs2 bi2 t2 E2 F2) :
    Stp a p q bs bi p2 q2 bs2 bi2 (t1 ++ t2) (E1 ∧ E2) (F1 ∨ F2) := by
  refine ⟨h2.hp, h2.hq, fun h => ?_, fun h => ?_, fun h h0 h' => ?_⟩
  · obtain ⟨g1, g2, g3, g4⟩ := h2.go h
    obtain ⟨k1, k2, k3, k4⟩ := h1.go g1
    exact ⟨k1, g2, g3, k4, g4⟩
  · obtain ⟨g1, g2⟩ := h2.rd h
    obtain ⟨k1, k2⟩ := h1.rd g1
    exact ⟨k1, k2.trans g2⟩
  · cases hb : bi1 with
    | true => exact .inl (h1.far (h2.rd h).1 h0 hb)
    | false => exact .inr (h2.far h hb h')
theorem Stp.mono {a t : List UInt8} {p q p1 q1 : Nat} {bs bi bs1 bi1 : Bool} {E E' F F' : Prop} (h : Stp a p q bs bi p1 q1 bs1 bi1 t E F) (hE : E → E') (hF : F → F') : Stp a p q bs bi p1 q1 bs1 bi1 t E' F' :=
  ⟨h.hp, h.hq, fun e => by obtain ⟨g1, g2, g3, g4⟩ := h.go e; exact ⟨g1, g2, g3, hE g4⟩, h.rd, fun e1 e2 e3 => hF (h.far e1 e2 e3)⟩
theorem oneR_rd {a : List UInt8} {p : Nat} {b : Bool} (hp : p ≤ a.length) : ∃ (d p' : Nat) (b' : Bool), oneR a p b = ((d : Int), a, (p' : Int), b') ∧ p' ≤ a.length ∧ d < 256 ∧ (b' = false → b = false ∧ Rd a p p' [UInt8.ofNat d]) := by
  cases b with
  | true => exact ⟨0, p, true, rfl, hp, by decide, fun h => by cases h⟩
  | false =>
    unfold oneR
    have hl : (a.drop p).length = a.length - p := by simp
    cases hd : a.drop p with
    | nil => exact ⟨0, p, true, rfl, hp, by decide, fun h => by cases h⟩
    | cons c t =>
      rw [hd, List.length_cons] at hl
      refine ⟨c.toNat, p + 1, false, rfl, by omega, u8lt c, fun _ => ⟨rfl, by omega, ?_⟩⟩
      rw [byte_of (c := c) rfl, hd, ← List.drop_drop, hd]; rfl
theorem one_step {a : List UInt8} {p q : Nat} {bs bi : Bool} (ha : a.length ≤ 4294967296) (hp : p ≤ a.length) (hq : q ≤ a.length) (hl : bi = false → bs = false ∧ q = p) :
    ∃ (d u p' q' : Nat) (bs' bi' : Bool), T_spec_l05One (a, (p : Int), bs) = some ((d : Int), a, (p' : Int), bs') ∧ T___impl_scanner__octet (a, (q : Int), bi) = some ((u : Int), a, (q' : Int), bi') ∧ d < 256 ∧ u < 256 ∧
      Stp a p q bs bi p' q' bs' bi' [UInt8.ofNat d] (u = d) False := by
  obtain ⟨d, p', bs', h1, h2, h3, h4⟩ := oneR_rd (b := bs) hp
  cases bi with
  | true => exact ⟨d, 0, p', q, bs', true, by rw [o_spec hp ha, h1], by rw [o_impl hq ha]; rfl, h3, by decide, h2, hq, fun h => (by cases h), h4, fun _ h => (by cases h)⟩
  | false =>
    obtain ⟨rfl, rfl⟩ := hl rfl
    exact ⟨d, d, p', p', bs', bs', by rw [o_spec hp ha, h1], by rw [o_impl hp ha, h1], h3, h3, h2, h2, fun h => ⟨rfl, h, rfl, rfl⟩, h4, fun h1 _ h2 => by rw [h1] at h2; cases h2⟩
theorem numR_rd {a : List UInt8} {p : Nat} {b : Bool} (hp : p ≤ a.length) : ∃ (v p' : Nat) (b' : Bool), numR a p b = ((v : Int), a, (p' : Int), b') ∧ p' ≤ a.length ∧ v ≤ 1000000000 ∧ (b' = false → b = false ∧ Rd a p p' (vEnc v)) := by
  cases b with
  | true => exact ⟨0, p, true, rfl, hp, by decide, fun h => by cases h⟩
  | false =>
    unfold numR
    cases hr : rvS 5 0 0 1 (a.drop p) with
    | none => exact ⟨0, p, true, rfl, hp, by decide, fun h => by cases h⟩
    | some q =>
      obtain ⟨v, n⟩ := q
      obtain ⟨h1, h2, h3⟩ := rv_le hp hr
      exact ⟨v, p + n, false, rfl, h3, h1, fun _ => ⟨rfl, h3, num_enc hr⟩⟩
theorem num_step {a : List UInt8} {p q : Nat} {bs bi : Bool} (ha : a.length ≤ 4294967296) (hp : p ≤ a.length) (hq : q ≤ a.length) (hl : bi = false → bs = false ∧ q = p) :
    ∃ (v u p' q' : Nat) (bs' bi' : Bool), T_spec_l05Var (a, (p : Int), bs) = some ((v : Int), a, (p' : Int), bs') ∧ T___impl_scanner__number (a, (q : Int), bi) = some ((u : Int), a, (q' : Int), bi') ∧ v ≤ 1000000000 ∧ u ≤ 1000000000 ∧
      Stp a p q bs bi p' q' bs' bi' (vEnc v) (u = v) False := by
  obtain ⟨d, p', bs', h1, h2, h3, h4⟩ := numR_rd (b := bs) hp
  cases bi with
  | true => exact ⟨d, 0, p', q, bs', true, by rw [n_spec hp ha, h1], by rw [n_impl hq ha]; rfl, h3, by decide, h2, hq, fun h => (by cases h), h4, fun _ h => (by cases h)⟩
  | false =>
    obtain ⟨rfl, rfl⟩ := hl rfl
    exact ⟨d, d, p', p', bs', bs', by rw [n_spec hp ha, h1], by rw [n_impl hp ha, h1], h3, h3, h2, h2, fun h => ⟨rfl, h, rfl, rfl⟩, h4, fun h1 _ h2 => by rw [h1] at h2; cases h2⟩
/-- A text with its length ahead. -/
def shT (t : List UInt8) : List UInt8 := vEnc t.length ++ t
theorem shR_rd {a : List UInt8} {p lim : Nat} {b : Bool} (hp : p ≤ a.length) : ∃ (t : List UInt8) (p' : Nat) (b' : Bool), shR lim a p b = (t, a, (p' : Int), b') ∧ p' ≤ a.length ∧ t.length ≤ a.length ∧ (b' = false → b = false ∧ t.length ≤ lim ∧ Rd a p p' (shT t)) := by
  cases b with
  | true => exact ⟨[], p, true, rfl, hp, by simp, fun h => by cases h⟩
  | false =>
    unfold shR
    cases hr : rvS 5 0 0 1 (a.drop p) with
    | none => exact ⟨[], p, true, rfl, hp, by simp, fun h => by cases h⟩
    | some q =>
      obtain ⟨v, n⟩ := q
      obtain ⟨h1, h2, h3⟩ := rv_le hp hr
      simp only [cond_false, takR]
      by_cases hc : (decide (lim < v) || decide (a.length - (p + n) < v)) = true
      · rw [hc]; exact ⟨[], p + n, true, rfl, h3, by simp, fun h => by cases h⟩
      · rw [Bool.not_eq_true] at hc
        rw [hc]
        simp only [Bool.or_eq_false_iff, decide_eq_false_iff_not] at hc
        have hz : ((a.drop (p + n)).take v).length = v := by simp; omega
        refine ⟨(a.drop (p + n)).take v, p + n + v, false, rfl, by omega, by omega, fun _ => ⟨by first | rfl | trivial, by omega, by omega, ?_⟩⟩
        rw [shT, hz, num_enc hr, List.append_assoc, ← List.drop_drop (i := v), List.take_append_drop]
theorem sh_step {a : List UInt8} {p q : Nat} {bs bi : Bool} (ha : a.length ≤ 4294967296) (hp : p ≤ a.length) (hq : q ≤ a.length) (hl : bi = false → bs = false ∧ q = p) :
    ∃ (t u : List UInt8) (p' q' : Nat) (bs' bi' : Bool), T_spec_l05ReadShort (a, (p : Int), bs) = some (t, a, (p' : Int), bs') ∧ T___impl_scanner__short (a, (q : Int), bi) = some (u, a, (q' : Int), bi') ∧ t.length ≤ a.length ∧ u.length ≤ a.length ∧
      Stp a p q bs bi p' q' bs' bi' (shT t) (u = t ∧ u.length ≤ 20000) (20000 < t.length) := by
  obtain ⟨d, p', bs', h1, h2, h3, h4⟩ := shR_rd (lim := 1000000000) (b := bs) hp
  have h4' : bs' = false → bs = false ∧ Rd a p p' (shT d) := fun h => ⟨(h4 h).1, (h4 h).2.2⟩
  cases bi with
  | true => exact ⟨d, [], p', q, bs', true, by rw [s_spec hp ha, h1], by rw [s_impl hq ha]; rfl, h3, by simp, h2, hq, fun h => (by cases h), h4', fun _ h => (by cases h)⟩
  | false =>
    obtain ⟨rfl, rfl⟩ := hl rfl
    obtain ⟨u, q', bi', g1, g2, g3, g4⟩ := shR_rd (lim := 20000) (b := false) hp
    refine ⟨d, u, p', q', bs', bi', by rw [s_spec hp ha, h1], by rw [s_impl hp ha, g1], h3, g3, h2, g2, fun h => ?_, h4', fun e1 _ e2 => ?_⟩
    · have hu := (g4 h).2.1
      simp only [shR, cond_false] at h1 g1
      cases hr : rvS 5 0 0 1 (a.drop q) with
      | none => rw [hr] at g1; simp only [Prod.mk.injEq] at g1; rw [← g1.2.2.2] at h; cases h
      | some x =>
        obtain ⟨v, n⟩ := x
        rw [hr] at g1 h1
        obtain ⟨k1, k2, k3⟩ := rv_le hp hr
        have hv : ¬ 20000 < v := fun hv => by
          simp only [takR, decide_eq_true hv, Bool.true_or, cond_true, Prod.mk.injEq] at g1
          rw [← g1.2.2.2] at h; cases h
        simp only [decide_eq_false hv] at g1
        simp only [decide_eq_false (show ¬ 1000000000 < v by omega)] at h1
        rw [h1] at g1
        simp only [Prod.mk.injEq, Int.natCast_inj] at g1
        obtain ⟨e1, _, e2, e3⟩ := g1
        exact ⟨rfl, by rw [e3]; exact h, e2.symm, e1.symm, hu⟩
    · simp only [shR, cond_false] at h1 g1
      cases hr : rvS 5 0 0 1 (a.drop q) with
      | none => rw [hr] at h1; simp only [Prod.mk.injEq] at h1; rw [← h1.2.2.2] at e1; cases e1
      | some x =>
        obtain ⟨v, n⟩ := x
        rw [hr] at g1 h1
        obtain ⟨k1, k2, k3⟩ := rv_le hp hr
        simp only [decide_eq_false (show ¬ 1000000000 < v by omega)] at h1
        by_cases hv : 20000 < v
        · simp only [takR, Bool.false_or] at h1
          by_cases hc : a.length - (q + n) < v
          · simp only [decide_eq_true hc, cond_true, Prod.mk.injEq] at h1
            rw [← h1.2.2.2] at e1; cases e1
          · simp only [decide_eq_false hc, cond_false, Prod.mk.injEq] at h1
            rw [← h1.1]; simp; omega
        · simp only [decide_eq_false hv] at g1
          rw [h1] at g1
          simp only [Prod.mk.injEq] at g1
          rw [g1.2.2.2] at e1
          rw [e1] at e2; cases e2
theorem vEnc_len5 : ∀ (k n : Nat), n < 128 ^ (k + 1) → (vEnc n).length ≤ k + 1
  | 0, n, h => by rw [vEnc_lo (by simp at h; omega)]; simp
  | k + 1, n, h => by
    by_cases hn : 127 < n
    · rw [vEnc_hi hn, List.length_cons]
      have := vEnc_len5 k (n / 128) (by rw [Nat.pow_succ] at h; omega)
      omega
    · rw [vEnc_lo (by omega)]; simp
theorem vEnc_l5 {n : Nat} (h : n ≤ 1000000000) : (vEnc n).length ≤ 5 := vEnc_len5 4 n (by have : (128 : Nat) ^ 5 = 34359738368 := rfl; omega)
/-- Numbers, one behind the other. -/
def NRun (T : List UInt8 × Int × Bool → Option (Int × List UInt8 × Int × Bool)) (a : List UInt8) : Nat → Nat → Bool → List Int → Nat → Bool → Prop
  | 0, p, b, ts, p', b' => ts = [] ∧ p' = p ∧ b' = b
  | n + 1, p, b, ts, p', b' => ∃ (t : Int) (l : List Int) (p1 : Nat) (b1 : Bool), ts = t :: l ∧ T (a, (p : Int), b) = some (t, a, (p1 : Int), b1) ∧ p1 ≤ a.length ∧ (b1 = false → b = false) ∧ NRun T a n p1 b1 l p' b'
theorem NRun.clear {T : List UInt8 × Int × Bool → Option (Int × List UInt8 × Int × Bool)} {a : List UInt8} : ∀ {n p : Nat} {b : Bool} {ts : List Int} {p' : Nat} {b' : Bool}, NRun T a n p b ts p' b' → b' = false → b = false
  | 0, _, _, _, _, _, h, h' => by rw [← h.2.2]; exact h'
  | n + 1, _, _, _, _, _, h, h' => by
    obtain ⟨t, l, p1, b1, _, _, _, h1, h2⟩ := h
    exact h1 (h2.clear h')
theorem nums_step {a : List UInt8} (ha : a.length ≤ 4294967296) : ∀ (n p q : Nat) (bs bi : Bool), p ≤ a.length → q ≤ a.length → (bi = false → bs = false ∧ q = p) →
    ∃ (ts us : List Int) (p' q' : Nat) (bs' bi' : Bool), NRun T_spec_l05Var a n p bs ts p' bs' ∧ NRun T___impl_scanner__number a n q bi us q' bi' ∧ ts.length = n ∧ us.length = n ∧ (∀ t ∈ ts, 0 ≤ t ∧ t ≤ 1000000000) ∧
      Stp a p q bs bi p' q' bs' bi' (ts.flatMap fun t => vEnc t.toNat) (us = ts) False
  | 0, p, q, bs, bi, hp, hq, hl => ⟨[], [], p, q, bs, bi, ⟨rfl, rfl, rfl⟩, ⟨rfl, rfl, rfl⟩, rfl, rfl, by simp, hp, hq, fun h => ⟨h, (hl h).1, (hl h).2, rfl⟩, fun h => ⟨h, Rd.refl hp⟩, fun _ h1 h2 => by rw [h1] at h2; cases h2⟩
  | n + 1, p, q, bs, bi, hp, hq, hl => by
    obtain ⟨t, u, p1, q1, bs1, bi1, e1, e2, l1, l2, S⟩ := num_step ha hp hq hl
    obtain ⟨ts, us, p2, q2, bs2, bi2, r1, r2, g1, g2, g3, S2⟩ := nums_step ha n p1 q1 bs1 bi1 S.hp S.hq (fun h => ⟨(S.go h).2.1, (S.go h).2.2.1⟩)
    refine ⟨(t : Int) :: ts, (u : Int) :: us, p2, q2, bs2, bi2, ⟨t, ts, p1, bs1, rfl, e1, S.hp, fun h => (S.rd h).1, r1⟩, ⟨u, us, q1, bi1, rfl, e2, S.hq, fun h => (S.go h).1, r2⟩, by simp [g1], by simp [g2], ?_, (S.trans S2).mono ?_ ?_⟩
    · intro x hx
      rcases List.mem_cons.1 hx with rfl | hx
      · omega
      · exact g3 x hx
    · rintro ⟨rfl, rfl⟩; rfl
    · rintro (h | h) <;> exact h
theorem x_isDaemonI (a : Int) : T_impl_isDaemon a = some (decide (1 ≤ a ∧ a ≤ 5)) := by
  rw [e_T_impl_isDaemon, (x_inRange _ _ _).2]; rfl
theorem levI (d : Int) : (d == 1 || d == 2) = decide ((1 : Int) ≤ d ∧ d ≤ 2) := by
  by_cases h1 : d = 1
  · subst h1; rfl
  · by_cases h2 : d = 2
    · subst h2; rfl
    · have : ¬ ((1 : Int) ≤ d ∧ d ≤ 2) := by omega
      simp [h1, h2, this]
def itemB (k d l : Int) (t : List UInt8) : Bool := decide ((1 ≤ k ∧ k ≤ 60) ∧ (1 ≤ d ∧ d ≤ 5) ∧ (1 ≤ l ∧ l ≤ 2) ∧ (t.length : Int) ≤ 60)
theorem x_ItemOk (k d l : Int) (t : List UInt8) : T_spec_ItemOk (k, d, l, t) = some (itemB k d l t) ∧ T_impl_ItemOk (k, d, l, t) = some (itemB k d l t) := by
  rw [e_T_spec_ItemOk, e_T_impl_ItemOk]
  simp only [(x_inRange _ _ _).1, (x_inRange _ _ _).2, x_isDaemonI, x_isLevel, levI, Option.bind_some, itemB]
  by_cases h1 : (1 ≤ k ∧ k ≤ 60) <;> by_cases h2 : (1 ≤ d ∧ d ≤ 5) <;> by_cases h3 : (1 ≤ l ∧ l ≤ 2) <;> simp [h1, h2, h3]
/-- An item's bytes. -/
def itemT (k d l : Int) (t : List UInt8) : List UInt8 := vEnc k.toNat ++ [UInt8.ofNat d.toNat] ++ [UInt8.ofNat l.toNat] ++ (vEnc t.length ++ t)
theorem v_ItemText (k d l : Int) (t : List UInt8) : T_spec_ItemText (k, d, l, t) = some (bif itemB k d l t then (itemT k d l t, true) else ([], false)) := by
  rw [e_T_spec_ItemText, (x_ItemOk k d l t).1]
  cases h : itemB k d l t
  · rfl
  · simp only [itemB, decide_eq_true_eq] at h
    obtain ⟨h1, h2, h3, h4⟩ := h
    have wb : ∀ {x : Int}, 0 ≤ x → x < 256 → List.map (fun (n : (ET.int IntKind.u8).den) => UInt8.ofNat (Int.toNat n)) [IntKind.u8.wrap x] = [UInt8.ofNat x.toNat] := fun h0 h1 => by rw [u8w h0 h1]; rfl
    simp only [Option.bind_some, Bool.not_true, cond_false, v_l01Var (a := k) (by omega) (by omega), wb (x := d) (by omega) (by omega), wb (x := l) (by omega) (by omega), v_byte (d := d) (by omega) (by omega), v_byte (d := l) (by omega) (by omega), v_short (t := t) (by omega)]
    have e1 := vEnc_len k.toNat
    have e2 := vEnc_len t.length
    simp only [List.length_append, List.length_singleton]
    rw [if_neg (by omega), if_neg (by omega), if_neg (by omega)]
    rfl
theorem i_impl {a : List UInt8} (ha : a.length ≤ 4294967296) : ∃ r, T_spec_ReadItem a = some r ∧ T_impl_ReadItem a = some r := by
  have none4 : ∀ (x : Int × Int × Int × List UInt8) (q : Bool), (bif true then (some (((0 : Int), (0 : Int), (0 : Int), ([] : List UInt8)), false)) else some (x, q)) = some ((0, 0, 0, []), false) := fun _ _ => rfl
  rw [e_T_spec_ReadItem, e_T_impl_ReadItem]
  rw [show (0 : Int) = ((0 : Nat) : Int) from rfl, n_spec (Nat.zero_le _) ha, n_impl (Nat.zero_le _) ha]
  simp only [numR, cond_false, Option.bind_some]
  cases hr : rvS 5 0 0 1 (a.drop 0) with
  | none =>
    simp only [o_spec (Nat.zero_le _) ha, o_impl (Nat.zero_le _) ha, s_spec (Nat.zero_le _) ha, s_impl (Nat.zero_le _) ha, bad_one, bad_sh, Option.bind_some, e_T___impl_scanner__done, v_ItemText, Bool.not_true, cond_false, cond_true, Sum.elim_inl, Bool.not_false]
    exact ⟨_, rfl, rfl⟩
  | some q =>
    obtain ⟨k, n⟩ := q
    obtain ⟨h1, h2, h3⟩ := rv_le (Nat.zero_le _) hr
    have hk := num_enc hr
    rw [List.drop_zero] at hk
    simp only [Nat.zero_add] at h3 hk ⊢
    simp only [o_spec h3 ha, o_impl h3 ha, Option.bind_some]
    cases hd : a.drop n with
    | nil =>
      simp only [oneR, hd, cond_false, Option.bind_some]
      simp only [o_spec h3 ha, o_impl h3 ha, s_spec h3 ha, s_impl h3 ha, bad_one, bad_sh, Option.bind_some, e_T___impl_scanner__done, v_ItemText, Bool.not_true, cond_false, cond_true, Sum.elim_inl, Bool.not_false]
      exact ⟨_, rfl, rfl⟩
    | cons d t =>
      have h4 : n + 1 ≤ a.length := by
        have : (a.drop n).length = a.length - n := by simp
        rw [hd] at this; simp at this; omega
      have ht : a.drop (n + 1) = t := by rw [← List.drop_drop, hd]; rfl
      simp only [oneR, hd, cond_false, Option.bind_some]
      simp only [o_spec h4 ha, o_impl h4 ha, Option.bind_some]
      cases hl : t with
      | nil =>
        subst hl
        simp only [oneR, ht, cond_false, Option.bind_some]
        simp only [s_spec h4 ha, s_impl h4 ha, bad_sh, Option.bind_some, e_T___impl_scanner__done, v_ItemText, Bool.not_true, cond_false, cond_true, Sum.elim_inl, Bool.not_false]
        exact ⟨_, rfl, rfl⟩
      | cons l u =>
        subst hl
        have h5 : n + 1 + 1 ≤ a.length := by
          have : (a.drop (n + 1)).length = a.length - (n + 1) := by simp
          rw [ht] at this; simp at this; omega
        have hu : a.drop (n + 1 + 1) = u := by rw [← List.drop_drop, ht]; rfl
        simp only [oneR, ht, cond_false, Option.bind_some]
        simp only [s_spec h5 ha, s_impl h5 ha, shR, cond_false, Option.bind_some]
        cases hs : rvS 5 0 0 1 (a.drop (n + 1 + 1)) with
        | none =>
          simp only [Option.bind_some, e_T___impl_scanner__done, v_ItemText, Bool.not_true, cond_false, cond_true, Sum.elim_inl, Bool.not_false]
          exact ⟨_, rfl, rfl⟩
        | some q =>
          obtain ⟨v, m⟩ := q
          obtain ⟨g1, g2, g3⟩ := rv_le h5 hs
          have hv := num_enc hs
          rw [hu] at hv
          simp only [takR]
          by_cases hav : a.length - (n + 1 + 1 + m) < v
          · simp only [hav, decide_true, Bool.or_true, cond_true, Option.bind_some, e_T___impl_scanner__done, v_ItemText, Bool.not_true, cond_false, Sum.elim_inl, Bool.not_false]
            exact ⟨_, rfl, rfl⟩
          · have hx : ¬ 1000000000 < v := by omega
            generalize hz : (a.drop (n + 1 + 1 + m)).take v = z
            have hzl : z.length = v := by rw [← hz]; simp; omega
            have hall : a = vEnc k ++ (d :: l :: (vEnc v ++ (z ++ a.drop (n + 1 + 1 + m + v)))) := by
              have hq : a.drop (n + 1 + 1 + m + v) = (a.drop (n + 1 + 1 + m)).drop v := by rw [List.drop_drop]
              rw [hq, ← hz, List.take_append_drop, ← hv, ← hd]
              exact hk
            simp only [hav, hx, decide_false, Bool.or_false, cond_false, Option.bind_some, e_T___impl_scanner__done, v_ItemText]
            by_cases hbig : 20000 < v
            · have hb : itemB (k : Int) (d.toNat : Int) (l.toNat : Int) z = false := by
                simp only [itemB, decide_eq_false_iff_not]; omega
              simp only [hbig, hb, decide_true, cond_true, cond_false, Bool.not_true, Bool.not_false, Option.bind_some, Sum.elim_inl]
              exact ⟨_, rfl, rfl⟩
            · simp only [hbig, decide_false, cond_false, Bool.not_false, cond_true, Option.bind_some, (x_ItemOk _ _ _ _).2]
              have htext : itemB (k : Int) (d.toNat : Int) (l.toNat : Int) z = true → (itemT (k : Int) (d.toNat : Int) (l.toNat : Int) z == a) = (((n + 1 + 1 + m + v : Nat) : Int) == (a.length : Int)) := by
                intro _
                have e1 : itemT (k : Int) (d.toNat : Int) (l.toNat : Int) z = vEnc k ++ (d :: l :: (vEnc v ++ z)) := by
                  simp only [itemT, Int.toNat_natCast, byte_of (c := d) rfl, byte_of (c := l) rfl, hzl]
                  simp
                rw [e1]
                by_cases hend : n + 1 + 1 + m + v = a.length
                · have : a.drop (n + 1 + 1 + m + v) = [] := List.drop_eq_nil_of_le (by omega)
                  rw [this, List.append_nil] at hall
                  rw [← hall, hend]; simp
                · have hne : a.drop (n + 1 + 1 + m + v) ≠ [] := by simp; omega
                  have h6 : ¬ vEnc k ++ (d :: l :: (vEnc v ++ z)) = a := by
                    intro h
                    rw [hall] at h
                    have := congrArg List.length h
                    simp at this
                    omega
                  rw [beq_eq_false_iff_ne.2 h6, beq_eq_false_iff_ne.2 (by omega)]
              cases hb : itemB (k : Int) (d.toNat : Int) (l.toNat : Int) z with
              | false =>
                cases (((n + 1 + 1 + m + v : Nat) : Int) == (a.length : Int)) <;> exact ⟨_, rfl, rfl⟩
              | true =>
                simp only [cond_true, Bool.not_true, cond_false, Option.bind_some, htext hb]
                cases (((n + 1 + 1 + m + v : Nat) : Int) == (a.length : Int)) <;> exact ⟨_, rfl, rfl⟩
theorem r_ReadItem {a : List UInt8} (ha : a.length ≤ 4294967296) : ∃ (k d l : Int) (t : List UInt8) (ok : Bool), T_spec_ReadItem a = some ((k, d, l, t), ok) ∧ T_impl_ReadItem a = some ((k, d, l, t), ok) ∧ (ok = true → itemB k d l t = true ∧ itemT k d l t = a) ∧ (ok = false → k = 0 ∧ d = 0 ∧ l = 0 ∧ t = []) := by
  obtain ⟨k, k', p1, q1, bs1, bi1, e1, e1', lk, lk', S1⟩ := num_step (bs := false) (bi := false) ha (Nat.zero_le a.length) (Nat.zero_le a.length) (fun _ => ⟨rfl, rfl⟩)
  obtain ⟨d, d', p2, q2, bs2, bi2, e2, e2', ld, ld', S2⟩ := one_step ha S1.hp S1.hq (fun h => ⟨(S1.go h).2.1, (S1.go h).2.2.1⟩)
  obtain ⟨l, l', p3, q3, bs3, bi3, e3, e3', ll, ll', S3⟩ := one_step ha S2.hp S2.hq (fun h => ⟨(S2.go h).2.1, (S2.go h).2.2.1⟩)
  obtain ⟨t, t', p4, q4, bs4, bi4, e4, e4', lt, lt', S4⟩ := sh_step ha S3.hp S3.hq (fun h => ⟨(S3.go h).2.1, (S3.go h).2.2.1⟩)
  have S := ((S1.trans S2).trans S3).trans S4
  have es : T_spec_ReadItem a = some (bif bs4 || (!itemB (k : Int) (d : Int) (l : Int) t || !(itemT (k : Int) (d : Int) (l : Int) t == a)) then ((0, 0, 0, []), false) else (((k : Int), (d : Int), (l : Int), t), true)) := by
    rw [e_T_spec_ReadItem, show (0 : Int) = ((0 : Nat) : Int) from rfl, e1]
    simp only [Option.bind_some, e2, e3, e4, v_ItemText]
    cases bs4 <;> cases itemB (k : Int) (d : Int) (l : Int) t <;> simp <;> (cases itemT (k : Int) (d : Int) (l : Int) t == a <;> rfl)
  have ei : T_impl_ReadItem a = some (bif bi4 || (!((q4 : Int) == (a.length : Int)) || !itemB (k' : Int) (d' : Int) (l' : Int) t') then ((0, 0, 0, []), false) else (((k' : Int), (d' : Int), (l' : Int), t'), true)) := by
    rw [e_T_impl_ReadItem, show (0 : Int) = ((0 : Nat) : Int) from rfl, e1']
    simp only [Option.bind_some, e2', e3', e4', e_T___impl_scanner__done, (x_ItemOk _ _ _ _).2]
    cases bi4 <;> cases itemB (k' : Int) (d' : Int) (l' : Int) t' <;> simp <;> (cases ((q4 : Int) == (a.length : Int)) <;> rfl)
  rw [es, ei]
  cases hb : bi4 with
  | false =>
    obtain ⟨_, hbs, hq, ⟨⟨hk, hd⟩, hl⟩, ht, _⟩ := S.go hb
    subst hk hd hl ht hq
    rw [hbs]
    have hT : (itemT (k' : Int) (d' : Int) (l' : Int) t' == a) = ((q4 : Int) == (a.length : Int)) := by
      rw [← (S.rd hbs).2.all]; rfl
    cases hv : itemB (k' : Int) (d' : Int) (l' : Int) t' with
    | false => exact ⟨0, 0, 0, [], false, rfl, by simp, fun h => (by cases h), fun _ => ⟨rfl, rfl, rfl, rfl⟩⟩
    | true =>
      rw [← hT]
      cases hq : (itemT (k' : Int) (d' : Int) (l' : Int) t' == a) with
      | false => exact ⟨0, 0, 0, [], false, rfl, rfl, fun h => (by cases h), fun _ => ⟨rfl, rfl, rfl, rfl⟩⟩
      | true => exact ⟨_, _, _, _, true, rfl, rfl, fun _ => ⟨hv, eq_of_beq hq⟩, fun h => by cases h⟩
  | true =>
    have hz : (bs4 || (!itemB (k : Int) (d : Int) (l : Int) t || !(itemT (k : Int) (d : Int) (l : Int) t == a))) = true := by
      cases hbs : bs4 with
      | true => rfl
      | false =>
        have hv : itemB (k : Int) (d : Int) (l : Int) t = false := by
          rcases S.far hbs rfl hb with ((h | h) | h) | h
          · exact h.elim
          · exact h.elim
          · exact h.elim
          · simp only [itemB, decide_eq_false_iff_not]; omega
        rw [hv]; rfl
    rw [hz]
    exact ⟨0, 0, 0, [], false, rfl, rfl, fun h => (by cases h), fun _ => ⟨rfl, rfl, rfl, rfl⟩⟩
theorem fuel2 : fuel = 18446744073709551614 + 1 + 1 := rfl
theorem and255 (z : BitVec 64) : IntKind.i64.wrap (((z &&& BitVec.ofInt 64 255).toNat : Nat) : Int) = (((z &&& BitVec.ofInt 64 255).toNat : Nat) : Int) ∧ (z &&& BitVec.ofInt 64 255).toNat ≤ 255 := by
  have h : (z &&& BitVec.ofInt 64 255).toNat ≤ 255 := by
    rw [BitVec.toNat_and, show (BitVec.ofInt 64 255).toNat = 255 from rfl]
    exact Nat.and_le_right
  exact ⟨wrap_ok (by omega) (by omega), h⟩
/-- A drawn byte. -/
theorem x_Byte {a : List Int} {b c : Int} (ha : a.length ≤ 1048576) (hb : 0 ≤ b) : ∃ x b' c', T_spec_l01Byte (a, b, c) = some (x, a, b', c') ∧ 0 ≤ x ∧ x ≤ 255 ∧ 0 ≤ b' := by
  rw [e_T_spec_l01Byte]
  generalize IntKind.i64.wrap (IntKind.i64.wrap (c * 6364136223846793005) + 1442695040888963407) = h
  by_cases hlt : b < (a.length : Int)
  · have hy : a[b.toNat]? = some (a[b.toNat]'(by omega)) := List.getElem?_eq_getElem (by omega)
    simp only [hlt, decide_true, cond_true, hb, if_true, hy, Option.bind_some, Sum.elim_inl]
    refine ⟨_, _, _, rfl, ?_, ?_, ?_⟩
    · rw [(and255 _).1]; omega
    · rw [(and255 _).1]; have := (and255 (BitVec.ofInt 64 (IntKind.i64.wrap (IntKind.i64.wrap (((BitVec.ofInt 64 (IntKind.i64.wrap (((BitVec.ofInt 64 (h.fdiv (2 ^ 33)) ^^^ BitVec.ofInt 64 (h.fdiv (2 ^ 45))).toNat : Nat) : Int)) &&& BitVec.ofInt 64 255).toNat : Nat) : Int) + IntKind.i64.wrap a[b.toNat])))).2; omega
    · rw [wrap_ok (by omega) (by omega)]; omega
  · simp only [hlt, decide_false, cond_false, Option.bind_some, Sum.elim_inl]
    refine ⟨_, _, _, rfl, ?_, ?_, hb⟩
    · rw [(and255 _).1]; omega
    · rw [(and255 _).1]; have := (and255 (BitVec.ofInt 64 (IntKind.i64.wrap (((BitVec.ofInt 64 (h.fdiv (2 ^ 33)) ^^^ BitVec.ofInt 64 (h.fdiv (2 ^ 45))).toNat : Nat) : Int)))).2; omega
theorem x_Below {a : List Int} {b c n : Int} (ha : a.length ≤ 1048576) (hb : 0 ≤ b) (hn : n ≤ 256) : ∃ x b' c', T_spec_l01Below ((a, b, c), n) = some (x, a, b', c') ∧ 0 ≤ x ∧ (0 < n → x < n) ∧ x ≤ 255 ∧ 0 ≤ b' := by
  rw [e_T_spec_l01Below]
  by_cases h0 : n ≤ 0
  · exact ⟨0, b, c, by simp [h0], by omega, by omega, by omega, hb⟩
  · obtain ⟨x, b', c', h1, h2, h3, h4⟩ := x_Byte (c := c) ha hb
    refine ⟨x.tmod n, b', c', ?_, ?_, fun _ => ?_, ?_, h4⟩
    · simp only [h0, hn, decide_false, decide_true, cond_false, cond_true, h1, Option.bind_some, if_neg (show ¬ n = 0 by omega)]
    · exact Int.tmod_nonneg _ h2
    · exact Int.tmod_lt_of_pos _ (by omega)
    · have := Int.tmod_lt_of_pos x (show 0 < n by omega); omega
theorem x_Pick {a : List Int} {b c : Int} {l : List (List UInt8)} (ha : a.length ≤ 1048576) (hb : 0 ≤ b) (hl : 0 < l.length) (hl2 : l.length ≤ 256) : ∃ x b' c', T_spec_l01Pick ((a, b, c), l) = some (x, a, b', c') ∧ x ∈ l ∧ 0 ≤ b' := by
  obtain ⟨r, b', c', h1, h2, h3, _, h4⟩ := x_Below (c := c) (n := (l.length : Int)) ha hb (by omega)
  have hr : r.toNat < l.length := by have := h3 (by omega); omega
  refine ⟨l[r.toNat], b', c', ?_, List.getElem_mem hr, h4⟩
  rw [e_T_spec_l01Pick, h1]
  simp only [Option.bind_some, h2, if_true, List.getElem?_eq_getElem hr]
theorem x_PickInt {a : List Int} {b c : Int} {l : List Int} (ha : a.length ≤ 1048576) (hb : 0 ≤ b) (hl : 0 < l.length) (hl2 : l.length ≤ 256) : ∃ x b' c', T_spec_l01PickInt ((a, b, c), l) = some (x, a, b', c') ∧ x ∈ l ∧ 0 ≤ b' := by
  obtain ⟨r, b', c', h1, h2, h3, _, h4⟩ := x_Below (c := c) (n := (l.length : Int)) ha hb (by omega)
  have hr : r.toNat < l.length := by have := h3 (by omega); omega
  refine ⟨l[r.toNat], b', c', ?_, List.getElem_mem hr, h4⟩
  rw [e_T_spec_l01PickInt, h1]
  simp only [Option.bind_some, h2, if_true, List.getElem?_eq_getElem hr]
theorem l_New {a : List Int} (ha : a.length ≤ 1048576) : ∀ (m i n : Nat) (h : Int), m < n → i + m = min a.length 4000 → ∃ h', L_spec_l01New_1 n (a, h, (i : Int)) = some (.inl (a, h'))
  | 0, i, n, h, hn, hi => by
    obtain ⟨n, rfl⟩ : ∃ j, n = j + 1 := ⟨n - 1, by omega⟩
    rw [e_L_spec_l01New_1]
    by_cases h1 : (i : Int) < (a.length : Int)
    · exact ⟨h, by simp only [h1, show ¬ (i : Int) < 4000 by omega, decide_true, decide_false, cond_true, cond_false, Option.bind_some, Sum.elim_inl]⟩
    · exact ⟨h, by simp only [h1, decide_false, cond_false, Option.bind_some, Sum.elim_inl]⟩
  | m + 1, i, n, h, hn, hi => by
    obtain ⟨n, rfl⟩ : ∃ j, n = j + 1 := ⟨n - 1, by omega⟩
    rw [e_L_spec_l01New_1]
    have hy : a[i]? = some (a[i]'(by omega)) := List.getElem?_eq_getElem (by omega)
    simp only [show (i : Int) < (a.length : Int) by omega, show (i : Int) < 4000 by omega, decide_true, cond_true, Option.bind_some, Sum.elim_inl, Int.natCast_nonneg, if_true, Int.toNat_natCast, hy]
    rw [wrap_ok (n := (i : Int) + 1) (by omega) (by omega)]
    exact l_New ha m (i + 1) n _ (by omega) (by omega)
theorem x_New {a : List Int} (ha : a.length ≤ 1048576) : ∃ h, T_spec_l01New a = some (a, 0, h) := by
  obtain ⟨h, h1⟩ := l_New ha (min a.length 4000) 0 fuel (IntKind.i64.wrap (27101 + (a.length : Int))) (by simp only [fuel]; omega) (by omega)
  refine ⟨h, ?_⟩
  rw [e_T_spec_l01New]
  rw [show ((0 : Nat) : Int) = (0 : Int) from rfl] at h1
  rw [h1]; rfl
theorem l_Text {a : List Int} (ha : a.length ≤ 1048576) {d : Nat} (hd : d ≤ 5000) : ∀ (m i n : Nat) (b c : Int) (e : List Int), m < n → i + m = d → 0 ≤ b → e.length = i → ∃ b' c' e', L_spec_l01Text_1 n ((a, b, c), (d : Int), e, (i : Int)) = some (.inl ((a, b', c'), e')) ∧ 0 ≤ b' ∧ e'.length = d
  | 0, i, n, b, c, e, hn, hi, hb, he => by
    obtain ⟨n, rfl⟩ : ∃ j, n = j + 1 := ⟨n - 1, by omega⟩
    rw [e_L_spec_l01Text_1, decide_eq_false (by omega)]
    exact ⟨b, c, e, rfl, hb, by omega⟩
  | m + 1, i, n, b, c, e, hn, hi, hb, he => by
    obtain ⟨n, rfl⟩ : ∃ j, n = j + 1 := ⟨n - 1, by omega⟩
    obtain ⟨x, b', c', h1, _, _, h4⟩ := x_Byte (c := c) ha hb
    rw [e_L_spec_l01Text_1, decide_eq_true (by omega), cond_true, h1, Option.bind_some]
    simp only [List.length_singleton]
    rw [if_pos ⟨by omega, by omega⟩, wrap_ok (by omega) (by omega)]
    exact l_Text ha hd m (i + 1) n b' c' _ (by omega) (by omega) h4 (by simp [he])
theorem x_Text {a : List Int} {b c : Int} {d : Nat} (ha : a.length ≤ 1048576) (hb : 0 ≤ b) (hd : d ≤ 5000) : ∃ s b' c', T_spec_l01Text ((a, b, c), (d : Int)) = some (s, a, b', c') ∧ s.length = d ∧ 0 ≤ b' := by
  obtain ⟨b', c', e', h1, h2, h3⟩ := l_Text ha hd d 0 fuel b c [] (by simp only [fuel]; omega) (by omega) hb rfl
  rw [show ((0 : Nat) : Int) = (0 : Int) from rfl] at h1
  refine ⟨List.map (fun (n : (ET.int IntKind.u8).den) => UInt8.ofNat (Int.toNat n)) e', b', c', ?_, ?_, h2⟩
  · rw [e_T_spec_l01Text, decide_eq_false (by omega)]
    simp only [cond_false, Option.bind_some, Sum.elim_inl, h1]
  · rw [List.length_map]; exact h3
theorem l_Long {n x : Int} : ∀ (m i k : Nat) (c : List Int), m < k → (i : Int) + m = n → (c.length : Int) = n → n ≤ 1000000 → ∃ c', L_spec_l01Long_1 k (n, x, c, (i : Int)) = some (.inl c') ∧ c'.length = c.length
  | 0, i, k, c, hk, hi, hc, hn => by
    obtain ⟨k, rfl⟩ : ∃ j, k = j + 1 := ⟨k - 1, by omega⟩
    rw [e_L_spec_l01Long_1, decide_eq_false (by omega)]
    exact ⟨c, rfl, rfl⟩
  | m + 1, i, k, c, hk, hi, hc, hn => by
    obtain ⟨k, rfl⟩ : ∃ j, k = j + 1 := ⟨k - 1, by omega⟩
    have hy : c[i]? = some (c[i]'(by omega)) := List.getElem?_eq_getElem (by omega)
    rw [e_L_spec_l01Long_1, decide_eq_true (by omega), cond_true]
    simp only [Int.natCast_nonneg, if_true, Int.toNat_natCast, hy, Option.bind_some, show i < c.length by omega]
    rw [wrap_ok (by omega) (by omega)]
    obtain ⟨c', h1, h2⟩ := l_Long (x := x) m (i + 1) k (c.set i x) (by omega) (by omega) (by simpa using hc) hn
    exact ⟨c', h1, by rw [h2]; simp⟩
theorem x_Long {n x : Int} (h0 : 0 ≤ n) (hn : n ≤ 1000000) : ∃ s, T_spec_l01Long (n, x) = some s ∧ (s.length : Int) = n := by
  obtain ⟨c, h1, h2⟩ := l_Long (x := x) n.toNat 0 fuel (List.replicate n.toNat 0) (by simp only [fuel]; omega) (by omega) (by simp; omega) hn
  rw [show ((0 : Nat) : Int) = (0 : Int) from rfl] at h1
  refine ⟨List.map (fun (n : (ET.int IntKind.u8).den) => UInt8.ofNat (Int.toNat n)) c, ?_, ?_⟩
  · rw [e_T_spec_l01Long, if_pos ⟨h0, rfl, by omega, by omega⟩, h1]; rfl
  · rw [List.length_map, h2]; simp; omega
theorem x_Spoilt {a : List Int} {b c : Int} {d : List UInt8} (ha : a.length ≤ 1048576) (hb : 0 ≤ b) (hd : d.length ≤ 250) : ∃ s b' c', T_spec_l02Spoilt ((a, b, c), d) = some (s, a, b', c') ∧ s.length ≤ 251 ∧ 0 ≤ b' := by
  rw [e_T_spec_l02Spoilt]
  obtain ⟨r, b1, c1, h1, h2, h3, _, h4⟩ := x_Below (c := c) (n := 12) ha hb (by omega)
  rw [h1]
  simp only [Option.bind_some]
  obtain ⟨t, b2, c2, g1, g2, g3⟩ := x_Text (c := c1) (d := 1) ha h4 (by omega)
  rw [show ((1 : Nat) : Int) = (1 : Int) from rfl] at g1
  cases r == 0 with
  | true =>
    simp only [cond_true, g1, Option.bind_some]
    rw [if_neg (by omega)]
    exact ⟨_, b2, c2, rfl, by rw [List.length_append]; omega, g3⟩
  | false =>
    cases r == 1 with
    | true =>
      obtain ⟨q, b3, c3, k1, k2, k3, _, k4⟩ := x_Below (c := c1) (n := (d.length : Int) + 1) ha h4 (by omega)
      have hq := k3 (by omega)
      rw [wrap_ok (n := (d.length : Int) + 1) (by omega) (by omega)]
      simp only [cond_true, cond_false, k1, Option.bind_some]
      rw [if_pos ⟨k2, by omega⟩]
      exact ⟨_, b3, c3, rfl, by rw [List.drop_zero, List.length_take]; omega, k4⟩
    | false =>
      have hflag : ∃ fl : Bool, (bif r == 2 then some (Sum.inl ((a, b1, c1), d, true)) else some (Sum.inl ((a, b1, c1), d, r == 3))) = (some (Sum.inl ((a, b1, c1), d, fl)) : Option (((List Int × Int × Int) × List UInt8 × Bool) ⊕ (((List Int × Int × Int) × List UInt8) ⊕ (List UInt8 × List Int × Int × Int)))) := by
        cases r == 2
        · exact ⟨_, rfl⟩
        · exact ⟨_, rfl⟩
      obtain ⟨fl, hfl⟩ := hflag
      simp only [cond_false]
      rw [hfl]
      simp only [Option.bind_some, Sum.elim_inl]
      cases fl with
      | false => exact ⟨d, b1, c1, rfl, by omega, h4⟩
      | true =>
        by_cases hd0 : 0 < (d.length : Int)
        · obtain ⟨q, b3, c3, k1, k2, k3, _, k4⟩ := x_Below (c := c1) (n := (d.length : Int)) ha h4 (by omega)
          have hq := k3 hd0
          obtain ⟨u, b4, c4, m1, m2, m3⟩ := x_Text (c := c3) (d := 1) ha k4 (by omega)
          rw [show ((1 : Nat) : Int) = (1 : Int) from rfl] at m1
          simp only [cond_true, decide_eq_true hd0, k1, Option.bind_some]
          rw [if_pos ⟨k2, by omega⟩, m1]
          simp only [Option.bind_some]
          rw [if_neg (by simp only [List.drop_zero, List.length_take]; omega), wrap_ok (n := q + 1) (by omega) (by omega), if_pos ⟨by omega, by omega⟩,
            if_neg (by simp only [List.drop_zero, List.length_append, List.length_drop, List.length_take]; omega)]
          simp only [Option.bind_some, Sum.elim_inr]
          exact ⟨_, b4, c4, rfl, by simp only [List.drop_zero, List.length_append, List.length_drop, List.length_take]; omega, m3⟩
        · simp only [cond_true, decide_eq_false hd0, cond_false, Option.bind_some, Sum.elim_inl]
          exact ⟨d, b1, c1, rfl, by omega, h4⟩
theorem x_Of {a : List Int} {b c n : Int} (ha : a.length ≤ 1048576) (hb : 0 ≤ b) : ∃ k d l t b' c', T_spec_l05Of ((a, b, c), n) = some ((k, d, l, t), a, b', c') ∧ t.length ≤ 3 ∧ 0 ≤ b' := by
  rw [e_T_spec_l05Of]
  obtain ⟨r, b1, c1, h1, _, _, _, h4⟩ := x_Below (c := c) (n := 2) ha hb (by omega)
  rw [h1, Option.bind_some]
  obtain ⟨t, b2, c2, g1, g2, g3⟩ := x_Pick (c := c1) (l := [[], [120], [121, 121], [122, 122, 122]]) ha h4 (by decide) (by decide)
  have g1' : T_spec_l01Pick ((a, b1, c1), [[], [{ toBitVec := { toFin := ⟨120, Nat.mod_lt 120 (BitVec.ofNat._proof_1 8)⟩ } }], [{ toBitVec := { toFin := ⟨121, Nat.mod_lt 121 (BitVec.ofNat._proof_1 8)⟩ } }, { toBitVec := { toFin := ⟨121, Nat.mod_lt 121 (BitVec.ofNat._proof_1 8)⟩ } }], [{ toBitVec := { toFin := ⟨122, Nat.mod_lt 122 (BitVec.ofNat._proof_1 8)⟩ } }, { toBitVec := { toFin := ⟨122, Nat.mod_lt 122 (BitVec.ofNat._proof_1 8)⟩ } }, { toBitVec := { toFin := ⟨122, Nat.mod_lt 122 (BitVec.ofNat._proof_1 8)⟩ } }]]) = some (t, a, b2, c2) := g1
  rw [g1', Option.bind_some]
  refine ⟨_, _, _, t, b2, c2, rfl, ?_, g3⟩
  rcases List.mem_cons.1 g2 with rfl | g2
  · decide
  rcases List.mem_cons.1 g2 with rfl | g2
  · decide
  rcases List.mem_cons.1 g2 with rfl | g2
  · decide
  · rw [List.mem_singleton.1 g2]; decide
theorem x_AnyItem {a : List Int} {b c : Int} (ha : a.length ≤ 1048576) (hb : 0 ≤ b) : ∃ k d l t b' c', T_spec_l05AnyItem (a, b, c) = some ((k, d, l, t), a, b', c') ∧ t.length ≤ 61 ∧ 0 ≤ b' := by
  rw [e_T_spec_l05AnyItem]
  obtain ⟨r, b1, c1, h1, _, _, _, h4⟩ := x_Below (c := c) (n := 12) ha hb (by omega)
  rw [h1, Option.bind_some]
  obtain ⟨k, d, l, t, b2, c2, g1, g2, g3⟩ := x_Of (c := c1) (n := IntKind.i64.wrap (1 + r)) ha h4
  simp only
  rw [g1, Option.bind_some]
  obtain ⟨q, b3, c3, k1, _, _, _, k4⟩ := x_Below (c := c2) (n := 16) ha g3 (by omega)
  simp only
  rw [k1, Option.bind_some]
  cases q == 0 with
  | true =>
    obtain ⟨y, b4, c4, m1, _, m3⟩ := x_PickInt (c := c3) (l := [Int.ofNat 0, Int.negSucc 0, Int.ofNat 60, Int.ofNat 61]) ha k4 (by decide) (by decide)
    simp only [cond_true, m1, Option.bind_some, Sum.elim_inl]
    exact ⟨_, _, _, _, b4, c4, rfl, by omega, m3⟩
  | false =>
    cases q == 1 with
    | true =>
      obtain ⟨y, b4, c4, m1, _, m3⟩ := x_PickInt (c := c3) (l := [Int.ofNat 0, Int.ofNat 5, Int.ofNat 6]) ha k4 (by decide) (by decide)
      simp only [cond_true, cond_false, m1, Option.bind_some, Sum.elim_inl]
      exact ⟨_, _, _, _, b4, c4, rfl, by omega, m3⟩
    | false =>
      cases q == 2 with
      | true =>
        obtain ⟨y, b4, c4, m1, _, m3⟩ := x_PickInt (c := c3) (l := [Int.ofNat 0, Int.ofNat 3]) ha k4 (by decide) (by decide)
        simp only [cond_true, cond_false, m1, Option.bind_some, Sum.elim_inl]
        exact ⟨_, _, _, _, b4, c4, rfl, by omega, m3⟩
      | false =>
        cases q == 3 with
        | true =>
          obtain ⟨y, b4, c4, m1, m2, m2', _, m3⟩ := x_Below (c := c3) (n := 2) ha k4 (by omega)
          have hy := m2' (by omega)
          obtain ⟨s, s1, s2⟩ := x_Long (n := 60 + y) (x := 65) (by omega) (by omega)
          simp only [cond_true, cond_false, m1, Option.bind_some, wrap_ok (n := 60 + y) (by omega) (by omega), s1, Sum.elim_inl]
          exact ⟨_, _, _, _, b4, c4, rfl, by omega, m3⟩
        | false =>
          simp only [cond_false, Option.bind_some, Sum.elim_inl]
          exact ⟨_, _, _, _, b3, c3, rfl, by omega, k4⟩
theorem x_DrawItem {a : List Int} (ha : a.length ≤ 1048576) : ∃ k d l t, T_spec_DrawItemText a = some (k, d, l, t) ∧ t.length ≤ 61 := by
  obtain ⟨h, h1⟩ := x_New ha
  obtain ⟨k, d, l, t, b', c', g1, g2, _⟩ := x_AnyItem (c := h) ha (Int.le_refl 0)
  exact ⟨k, d, l, t, by rw [e_T_spec_DrawItemText, h1]; simp only [Option.bind_some, g1], g2⟩
theorem itemT_len {k d l : Int} {t : List UInt8} (h : itemB k d l t = true) : (itemT k d l t).length ≤ 80 := by
  simp only [itemB, decide_eq_true_eq] at h
  have v1 := vEnc_l5 (n := k.toNat) (by omega)
  have v2 := vEnc_l5 (n := t.length) (by omega)
  simp only [itemT, List.length_append, List.length_singleton]
  omega
theorem x_DrawReadItem {a : List Int} (ha : a.length ≤ 1048576) : ∃ s, T_spec_DrawReadItem a = some s ∧ s.length ≤ 251 := by
  obtain ⟨h, h1⟩ := x_New ha
  obtain ⟨k, d, l, t, b', c', g1, g2, g3⟩ := x_AnyItem (c := h) ha (Int.le_refl 0)
  have hl : (bif itemB k d l t then (itemT k d l t, true) else ([], false)).1.length ≤ 250 := by
    cases hb : itemB k d l t with
    | false => simp
    | true => have := itemT_len hb; simp only [cond_true]; omega
  obtain ⟨s, b2, c2, m1, m2, _⟩ := x_Spoilt (c := c') ha g3 hl
  exact ⟨s, by rw [e_T_spec_DrawReadItem, h1]; simp only [Option.bind_some, g1, v_ItemText, m1], m2⟩
theorem v_varSmall {n : Nat} (h : n ≤ 127) : T_impl_varText (n : Int) = some (vEnc n) := by
  rw [e_T_impl_varText, fuel2, e_L_impl_varText_1, decide_eq_false (by omega), vEnc_lo h]
  simp only [cond_false, Option.bind_some, Sum.elim_inl, List.length_nil, List.length_singleton]
  rw [if_pos ⟨by omega, by omega⟩, u8w (by omega) (by omega)]
  rfl
theorem v_octets2 {d l : Nat} (hd : d < 256) (hl : l < 256) : T_impl_octets [(d : Int), (l : Int)] = some [UInt8.ofNat d, UInt8.ofNat l] := by
  obtain ⟨s, h1, h2⟩ := loop_all (L := L_impl_octets_1) [(d : Int), (l : Int)] (fun s i => (s, [(d : Int), (l : Int)], 2, i)) (fun s => s) (fun i s => s = ([(d : Int), (l : Int)]).take i) (fun i y s hy hi hI => ⟨([(d : Int), (l : Int)]).take (i + 1), rfl, fun n => by
    have hyv : 0 ≤ y ∧ y < 256 := by
      have hm := List.mem_of_getElem? hy
      rcases List.mem_cons.1 hm with rfl | hm
      · omega
      · rw [List.mem_singleton.1 hm]; omega
    have hi' : i < 2 := hi
    subst hI
    rw [e_L_impl_octets_1, take_succ' hy]
    simp only [show ((i : Int) < 2) by omega, decide_true, cond_true, Int.natCast_nonneg, if_true, Int.toNat_natCast, hy, Option.bind_some, List.length_take, List.length_cons, List.length_nil]
    rw [if_pos ⟨by omega, by omega⟩, u8w hyv.1 hyv.2, wrap_ok (by omega) (by omega)]
    rfl⟩) (fun n s _ => by rw [e_L_impl_octets_1]; simp) (by rw [maxLen_eq]; simp) [] rfl
  rw [e_T_impl_octets]
  show (L_impl_octets_1 fuel ([], [(d : Int), (l : Int)], 2, 0)).bind _ = _
  rw [h2, h1]
  rfl
theorem v_implItemText (k d l : Int) (t : List UInt8) : T_impl_ItemText (k, d, l, t) = some (bif itemB k d l t then (itemT k d l t, true) else ([], false)) := by
  rw [e_T_impl_ItemText, (x_ItemOk k d l t).2]
  cases h : itemB k d l t
  · rfl
  · simp only [itemB, decide_eq_true_eq] at h
    obtain ⟨⟨h1, h1'⟩, ⟨h2, h2'⟩, ⟨h3, h3'⟩, h4⟩ := h
    obtain ⟨kn, rfl⟩ : ∃ n : Nat, k = (n : Int) := ⟨k.toNat, by omega⟩
    obtain ⟨dn, rfl⟩ : ∃ n : Nat, d = (n : Int) := ⟨d.toNat, by omega⟩
    obtain ⟨ln, rfl⟩ : ∃ n : Nat, l = (n : Int) := ⟨l.toNat, by omega⟩
    have e1 := vEnc_l5 (n := kn) (by omega)
    have e2 := vEnc_l5 (n := t.length) (by omega)
    simp only [Option.bind_some, Bool.not_true, cond_false, e_T_impl_itemText, v_varSmall (n := kn) (by omega), v_octets2 (d := dn) (l := ln) (by omega) (by omega), e_T_impl_shortText, v_varSmall (n := t.length) (by omega)]
    rw [if_neg (by simp only [List.length_cons, List.length_nil]; omega), if_neg (by omega)]
    simp only [Option.bind_some]
    rw [if_neg (by simp only [List.length_append, List.length_cons, List.length_nil]; omega)]
    simp only [Option.bind_some, itemT, Int.toNat_natCast, cond_true, List.append_assoc, List.cons_append, List.nil_append]
theorem rv_small {c : UInt8} {t : List UInt8} (h : c.toNat < 128) : rvS 5 0 0 1 (c :: t) = some (c.toNat, 1) := by
  simp only [rvS]
  rw [if_pos h, if_neg (by omega)]
  simp
theorem fwd_item {k d l : Int} {t : List UInt8} (h : itemB k d l t = true) : T_impl_ReadItem (itemT k d l t) = some ((k, d, l, t), true) := by
  have hB := h
  simp only [itemB, decide_eq_true_eq] at h
  obtain ⟨⟨h1, h1'⟩, ⟨h2, h2'⟩, ⟨h3, h3'⟩, h4⟩ := h
  obtain ⟨kn, rfl⟩ : ∃ n : Nat, k = (n : Int) := ⟨k.toNat, by omega⟩
  obtain ⟨dn, rfl⟩ : ∃ n : Nat, d = (n : Int) := ⟨d.toNat, by omega⟩
  obtain ⟨ln, rfl⟩ : ∃ n : Nat, l = (n : Int) := ⟨l.toNat, by omega⟩
  have nat : ∀ {n : Nat}, n < 128 → (UInt8.ofNat n).toNat = n := fun h => by simp; omega
  have hT : itemT (kn : Int) (dn : Int) (ln : Int) t = UInt8.ofNat kn :: UInt8.ofNat dn :: UInt8.ofNat ln :: UInt8.ofNat t.length :: t := by
    simp only [itemT, Int.toNat_natCast, vEnc_lo (n := kn) (by omega), vEnc_lo (n := t.length) (by omega), List.cons_append, List.nil_append]
  have hl : (itemT (kn : Int) (dn : Int) (ln : Int) t).length = t.length + 4 := by rw [hT]; simp
  have ha : (itemT (kn : Int) (dn : Int) (ln : Int) t).length ≤ 4294967296 := by omega
  generalize hA : itemT (kn : Int) (dn : Int) (ln : Int) t = A at *
  have n1 : numR A 0 false = ((kn : Int), A, ((1 : Nat) : Int), false) := by
    unfold numR
    rw [List.drop_zero, hT, rv_small (by rw [nat (by omega)]; omega), nat (by omega)]
    rfl
  have o1 : oneR A 1 false = ((dn : Int), A, ((2 : Nat) : Int), false) := by
    unfold oneR
    rw [hT]
    simp only [List.drop_succ_cons, List.drop_zero, cond_false, nat (n := dn) (by omega)]
  have o2 : oneR A 2 false = ((ln : Int), A, ((3 : Nat) : Int), false) := by
    unfold oneR
    rw [hT]
    simp only [List.drop_succ_cons, List.drop_zero, cond_false, nat (n := ln) (by omega)]
  have s1 : shR 20000 A 3 false = (t, A, ((t.length + 4 : Nat) : Int), false) := by
    unfold shR
    have hd : A.drop 3 = UInt8.ofNat t.length :: t := by rw [hT]; rfl
    have hd4 : A.drop 4 = t := by rw [hT]; rfl
    rw [hd, rv_small (by rw [nat (by omega)]; omega), nat (by omega)]
    simp only [cond_false, takR, hd4, show ¬ 20000 < t.length by omega, decide_false, Bool.false_or, show ¬ A.length - (3 + 1) < t.length by omega, List.take_length]
    rw [show 3 + 1 + t.length = t.length + 4 by omega]
  rw [e_T_impl_ReadItem, show (0 : Int) = ((0 : Nat) : Int) from rfl, n_impl (Nat.zero_le _) ha, n1]
  simp only [Option.bind_some]
  rw [o_impl (by omega) ha, o1]
  simp only [Option.bind_some]
  rw [o_impl (by omega) ha, o2]
  simp only [Option.bind_some]
  rw [s_impl (by omega) ha, s1]
  simp only [Option.bind_some, e_T___impl_scanner__done, (x_ItemOk _ _ _ _).2, hB, Bool.not_false, cond_true, hl, beq_self_eq_true, Bool.not_true, cond_false, Sum.elim_inl]
theorem law_FnItems (a : List Int) (h : (ET.sl false (.int .u8)).ok a) : T_laws_FnItems a = some true := by
  rw [e_T_laws_FnItems, e_T_laws_big]
  by_cases h1 : 1048576 < (a.length : Int)
  · simp [h1]
  · have ha : a.length ≤ 1048576 := by omega
    obtain ⟨k, d, l, t, g1, g2⟩ := x_DrawItem ha
    obtain ⟨s, m1, m2⟩ := x_DrawReadItem ha
    obtain ⟨k2, d2, l2, t2, ok, r1, r2, r3, _⟩ := r_ReadItem (a := s) (by omega)
    have hread : ∃ q, T_impl_ReadItem (bif itemB k d l t then (itemT k d l t, true) else ([], false)).1 = some q ∧ (itemB k d l t = true → q = ((k, d, l, t), true)) := by
      cases hb : itemB k d l t with
      | true => exact ⟨_, fwd_item hb, fun _ => rfl⟩
      | false =>
        obtain ⟨k3, d3, l3, t3, ok3, _, q2, _, _⟩ := r_ReadItem (a := []) (by simp)
        exact ⟨_, q2, fun h => by cases h⟩
    obtain ⟨q, q1, q2⟩ := hread
    rw [decide_eq_false h1]
    simp only [Option.bind_some, cond_false, g1, v_implItemText, q1, (x_ItemOk _ _ _ _).1, (x_ItemOk _ _ _ _).2]
    cases hb : itemB k d l t with
    | false =>
      simp only [cond_false, beq_self_eq_true, Bool.not_true, Option.bind_some, Sum.elim_inl, m1, r1, r2]
      cases hok : ok with
      | false => simp only [beq_self_eq_true, cond_true, Bool.not_false]
      | true =>
        obtain ⟨w1, w2⟩ := r3 hok
        simp only [w1, w2, cond_true, beq_self_eq_true, Bool.not_true, cond_false]
    | true =>
      rw [q2 hb]
      simp only [cond_true, cond_false, beq_self_eq_true, Bool.not_true, Bool.and_self, Option.bind_some, Sum.elim_inl, m1, r1, r2]
      cases hok : ok with
      | false => simp only [beq_self_eq_true, cond_true, Bool.not_false]
      | true =>
        obtain ⟨w1, w2⟩ := r3 hok
        simp only [w1, w2, cond_true, beq_self_eq_true, Bool.not_true, cond_false]
end Xs
end Go.Proofs.Ytlblgfhdndpmfaa
