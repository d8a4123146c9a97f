/- What the reference's function answers, and the program's: the same. -/
import Derived.Test.YtfepabohinkpgaaT9
import Derived.Test.YtfepabohinkpgaaXReadItemE
namespace Go.Proofs.Ytfepabohinkpgaa
open Go Vm
set_option linter.unusedVariables false
set_option linter.unusedSimpArgs false
namespace Xs
theorem q_eqItem {x : (ET.pair (.int .i64) (.pair (.int .i64) (.pair (.int .i64) .str))).den} (h : (ET.pair (.int .i64) (.pair (.int .i64) (.pair (.int .i64) .str))).small x) : T_laws_eqItem (x, x) = some true := by
  obtain ⟨a, b, c, d⟩ := x
  obtain ⟨h_a, h_b, h_c, h_d⟩ := h
  simp only [e_T_laws_eqItem, Option.bind_some, beq_self_eq_true, Bool.not_true, cond_false]
theorem small_len {s : List UInt8} (h : ET.str.small s) : s.length ≤ maxLen := Nat.le_trans h (by decide)
theorem smallL_len {e : ET} {o : Bool} {s : List e.den} (h : (ET.sl o e).small s) : s.length ≤ maxLen := Nat.le_trans h.1 (by decide)
theorem x_inRange (a b c : Int) : T_spec_l01In (a, b, c) = some (decide (b ≤ a ∧ a ≤ c)) ∧ T_impl_inRange (a, b, c) = some (decide (b ≤ a ∧ a ≤ c)) := by
  rw [e_T_spec_l01In, e_T_impl_inRange]
  by_cases h : b ≤ a <;> simp [h]
theorem x_isLevel (a : Int) : T_impl_isLevel a = some (a == 1 || a == 2) := by
  rw [e_T_impl_isLevel]; cases a == 1 <;> rfl
/-- A number's bytes: seven bits each, the low ones first. -/
def vEnc (n : Nat) : List UInt8 := if 127 < n then UInt8.ofNat (n % 128 + 128) :: vEnc (n / 128) else [UInt8.ofNat n]
theorem vEnc_hi {n : Nat} (h : 127 < n) : vEnc n = UInt8.ofNat (n % 128 + 128) :: vEnc (n / 128) := by rw [vEnc, if_pos h]
theorem vEnc_lo {n : Nat} (h : n ≤ 127) : vEnc n = [UInt8.ofNat n] := by rw [vEnc, if_neg (by omega)]
theorem u8w {n : Int} (h0 : 0 ≤ n) (h1 : n < 256) : IntKind.u8.wrap n = n := by
  rw [IntKind.wrap_u8]; omega
theorem vEnc_len : ∀ n : Nat, (vEnc n).length ≤ n + 1 := by
  intro n
  induction n using Nat.strongRecOn with
  | _ n ih =>
    by_cases h : 127 < n
    · rw [vEnc_hi h]
      have := ih (n / 128) (by omega)
      simp only [List.length_cons]; omega
    · rw [vEnc_lo (by omega)]; simp
theorem l_var : ∀ (k n : Nat) (b : List Int), k < n → b.length + k ≤ 4294967296 → ∃ (k' : Nat) (b' : List Int), L_spec_l01Var_1 n ((k : Int), b) = some (.inl ((k' : Int), b')) ∧ k' ≤ 127 ∧ b'.length ≤ b.length + k ∧ b'.map (fun x => UInt8.ofNat x.toNat) ++ [UInt8.ofNat k'] = b.map (fun x => UInt8.ofNat x.toNat) ++ vEnc k := by
  intro k
  induction k using Nat.strongRecOn with
  | _ k ih =>
    intro n b hn hb
    obtain ⟨m, rfl⟩ : ∃ m, n = m + 1 := ⟨n - 1, by omega⟩
    rw [e_L_spec_l01Var_1]
    by_cases h : 127 < k
    · have h1 : (127 : Int) < (k : Int) := by omega
      have e1 : IntKind.i64.wrap ((k : Int).tmod 128 + 128) = ((k % 128 + 128 : Nat) : Int) := by
        rw [Int.tmod_eq_emod_of_nonneg (by omega), wrap_ok (by omega) (by omega)]; omega
      have e2 : IntKind.i64.wrap ((k : Int).tdiv 128) = ((k / 128 : Nat) : Int) := by
        rw [Int.tdiv_eq_ediv_of_nonneg (by omega), wrap_ok (by omega) (by omega)]; omega
      simp only [h1, decide_true, cond_true, e1, e2, List.length_singleton]
      rw [if_pos (by omega), u8w (by omega) (by omega)]
      obtain ⟨k', b', h2, h3, h4, h5⟩ := ih (k / 128) (by omega) m (b.append [((k % 128 + 128 : Nat) : Int)]) (by omega) (by simp; omega)
      refine ⟨k', b', h2, h3, by simp at h4; omega, ?_⟩
      rw [h5, vEnc_hi h]
      simp only [List.append_eq, List.map_append, List.map_cons, List.map_nil, Int.toNat_natCast, List.append_assoc, List.cons_append, List.nil_append]
    · have h1 : ¬ (127 : Int) < (k : Int) := by omega
      simp only [h1, decide_false, cond_false]
      exact ⟨k, b, rfl, by omega, by omega, by rw [vEnc_lo (by omega)]⟩
theorem v_l01Var {a : Int} (h0 : 0 ≤ a) (h1 : a ≤ 2147483648) : T_spec_l01Var a = some (vEnc a.toNat) := by
  obtain ⟨k, rfl⟩ : ∃ k : Nat, a = (k : Int) := ⟨a.toNat, by omega⟩
  rw [e_T_spec_l01Var]
  obtain ⟨k', b', h2, h3, h4, h5⟩ := l_var k fuel [] (by simp only [fuel]; omega) (by simp; omega)
  rw [h2]
  simp only [Option.bind_some, Sum.elim_inl]
  simp at h4
  rw [if_pos (by simp; omega), u8w (by omega) (by omega)]
  simp only [List.map_nil, List.nil_append] at h5
  simp only [Option.some.injEq, Int.toNat_natCast]
  rw [← h5]
  simp
/-- A number off the front of bytes. -/
def rvS : Nat → Nat → Nat → Nat → List UInt8 → Option (Nat × Nat)
  | 0, _, _, _, _ => none
  | _ + 1, _, _, _, [] => none
  | k + 1, i, acc, m, c :: t => if c.toNat < 128 then (if (c.toNat = 0 ∧ 0 < i) ∨ 1000000000 < acc + c.toNat * m then none else some (acc + c.toNat * m, i + 1))
    else rvS k (i + 1) (acc + (c.toNat - 128) * m) (m * 128) t
/-- How it is told: the number, where it ends, whether it is right. -/
def outV (b : Nat) : Option (Nat × Nat) → Int × Int × Bool
  | none => (0, 0, false)
  | some (v, n) => ((v : Int), ((b + n : Nat) : Int), true)
theorem getD_at {a : List UInt8} {i : Nat} (h : i < a.length) : a.getD i 0 = a[i] := by simp [List.getD_eq_getElem?_getD, h]
theorem u8lt (c : UInt8) : c.toNat < 256 := c.toNat_lt
theorem l_implVar : ∀ (k e acc m b j : Nat) (a : List UInt8), k + e = 5 → m = 128 ^ e → acc < m → b ≤ a.length → a.length ≤ 4294967296 → ∃ q, L_impl_ReadVar_1 (k + 1 + j) (a, (b : Int), (acc : Int), (m : Int), (e : Int)) = some q ∧ Sum.elim (fun _ => ((0 : Int), (0 : Int), false)) (fun v => v) q = outV b (rvS k e acc m (a.drop (b + e))) := by
  intro k
  induction k with
  | zero =>
    intro e acc m b j a hk hm hacc hb ha
    have he : e = 5 := by omega
    subst he
    rw [show 0 + 1 + j = j + 1 by omega, e_L_impl_ReadVar_1]
    exact ⟨.inl (), rfl, rfl⟩
  | succ k ih =>
    intro e acc m b j a hk hm hacc hb ha
    have he : e ≤ 4 := by omega
    have hmB : m ≤ 268435456 := by
      rw [hm]; exact Nat.le_trans (Nat.pow_le_pow_right (by decide) he) (by decide)
    rw [show k + 1 + 1 + j = (k + 1 + j) + 1 by omega, e_L_impl_ReadVar_1]
    have e1 : ((e : Int) < 5) := by omega
    have w1 : IntKind.i64.wrap ((b : Int) + (e : Int)) = ((b + e : Nat) : Int) := by rw [wrap_ok (by omega) (by omega)]; omega
    simp only [e1, decide_true, cond_true, w1, Option.bind_some, Sum.elim_inl]
    by_cases hlt : b + e < a.length
    · have h2 : ((b + e : Nat) : Int) < (a.length : Int) := by omega
      have hd : a.drop (b + e) = a[b + e] :: a.drop (b + e + 1) := by rw [List.drop_eq_getElem_cons hlt]
      have hc := u8lt a[b + e]
      rw [hd]
      generalize hcc : a[b + e] = c at *
      have w2 : IntKind.i64.wrap (c.toNat : Int) = (c.toNat : Int) := wrap_ok (by omega) (by omega)
      simp only [h2, decide_true, cond_true, Int.natCast_nonneg, if_true, Int.toNat_natCast, getD_at hlt, hcc, w2]
      by_cases hs : c.toNat < 128
      · have hp : c.toNat * m < 128 * m := by
          have := Nat.mul_lt_mul_of_pos_right hs (show 0 < m by rw [hm]; exact Nat.pow_pos (by decide))
          exact this
        have e2 : ¬ (128 : Int) ≤ (c.toNat : Int) := by omega
        have w3 : IntKind.i64.wrap ((acc : Int) + IntKind.i64.wrap ((c.toNat : Int).tmod 128 * (m : Int))) = ((acc + c.toNat * m : Nat) : Int) := by
          rw [Int.tmod_eq_emod_of_nonneg (by omega), Int.emod_eq_of_lt (by omega) (by omega), wrap_ok (n := (c.toNat : Int) * (m : Int)) (by omega) (by omega), wrap_ok (by omega) (by omega)]; omega
        have w4 : IntKind.i64.wrap (IntKind.i64.wrap ((b : Int) + (e : Int)) + 1) = ((b + (e + 1) : Nat) : Int) := by
          rw [w1, wrap_ok (by omega) (by omega)]; omega
        rw [w1] at w4
        have e3 : ((c.toNat : Int) == 0) = decide (c.toNat = 0) := by
          by_cases h : c.toNat = 0 <;> simp [h]
        have e4 : (decide ((0 : Int) < (e : Int))) = decide (0 < e) := by
          by_cases h : 0 < e <;> simp [h]
        have e5 : (decide ((1000000000 : Int) < ((acc + c.toNat * m : Nat) : Int))) = decide (1000000000 < acc + c.toNat * m) := by
          by_cases h : 1000000000 < acc + c.toNat * m
          · rw [decide_eq_true h, decide_eq_true (by omega)]
          · rw [decide_eq_false h, decide_eq_false (by omega)]
        simp only [e2, decide_false, cond_false, w3, e3, e4, e5, bif_bind, Option.bind_some, Sum.elim_inl, w1, w4, rvS, hs, if_true]
        by_cases hz : c.toNat = 0 <;> by_cases he0 : 0 < e <;> by_cases hbig : 1000000000 < acc + c.toNat * m <;> simp only [hz, he0, hbig, decide_true, decide_false, cond_true, cond_false, and_true, and_false, true_and, false_and, true_or, or_true, false_or, or_false, if_true, if_false] <;>
          first
          | exact ⟨_, rfl, rfl⟩
          | (simp only [hz] at hbig; simp only [hbig, decide_true, decide_false, cond_true, cond_false, if_true, if_false]; exact ⟨_, rfl, rfl⟩)
      · have hp : (c.toNat - 128) * m ≤ 127 * m := Nat.mul_le_mul_right _ (by omega)
        have e2 : (128 : Int) ≤ (c.toNat : Int) := by omega
        have hcm : ((c.toNat : Int).tmod 128 * (m : Int)) = (((c.toNat - 128) * m : Nat) : Int) := by
          rw [Int.tmod_eq_emod_of_nonneg (by omega), show (c.toNat : Int) % 128 = ((c.toNat - 128 : Nat) : Int) by omega, Int.natCast_mul]
        have w3 : IntKind.i64.wrap ((acc : Int) + IntKind.i64.wrap ((c.toNat : Int).tmod 128 * (m : Int))) = ((acc + (c.toNat - 128) * m : Nat) : Int) := by
          rw [hcm, wrap_ok (n := (((c.toNat - 128) * m : Nat) : Int)) (by omega) (by omega), wrap_ok (by omega) (by omega)]; omega
        have w4 : IntKind.i64.wrap ((m : Int) * 128) = ((m * 128 : Nat) : Int) := by rw [wrap_ok (by omega) (by omega)]; omega
        have w5 : IntKind.i64.wrap ((e : Int) + 1) = ((e + 1 : Nat) : Int) := by rw [wrap_ok (by omega) (by omega)]; omega
        simp only [e2, decide_true, cond_true, w3, w4, w5, rvS, hs, if_false]
        exact ih (e + 1) (acc + (c.toNat - 128) * m) (m * 128) b j a (by omega) (by rw [hm, Nat.pow_succ]) (by omega) hb ha
    · have h2 : ¬ ((b + e : Nat) : Int) < (a.length : Int) := by omega
      simp only [h2, decide_false, cond_false]
      rw [List.drop_eq_nil_of_le (by omega)]
      exact ⟨.inl (), rfl, rfl⟩
theorem v_implVar {a : List UInt8} {b : Nat} (hb : b ≤ a.length) (ha : a.length ≤ 4294967296) : T_impl_ReadVar (a, (b : Int)) = some (outV b (rvS 5 0 0 1 (a.drop b))) := by
  rw [e_T_impl_ReadVar]
  have h1 : ¬ (b : Int) < 0 := by omega
  have h2 : ¬ (a.length : Int) < (b : Int) := by omega
  obtain ⟨q, h3, h4⟩ := l_implVar 5 0 0 1 b 18446744073709551610 a rfl rfl (by decide) hb ha
  simp only [Nat.add_zero, Int.natCast_zero, Int.natCast_one] at h3 h4
  have h5 : L_impl_ReadVar_1 fuel (a, (b : Int), 0, 1, 0) = some q := h3
  simp only [h1, h2, decide_false, cond_false, Option.bind_some, Sum.elim_inl, h5]
  rw [← h4]
  cases q <;> rfl
theorem rvS_bound : ∀ (k i acc m : Nat) (t : List UInt8) (v n : Nat), rvS k i acc m t = some (v, n) → v ≤ 1000000000 ∧ i < n ∧ n ≤ i + t.length
  | 0, _, _, _, _, _, _, h => by simp [rvS] at h
  | _ + 1, _, _, _, [], _, _, h => by simp [rvS] at h
  | k + 1, i, acc, m, c :: t, v, n, h => by
    simp only [rvS] at h
    split at h
    · split at h
      · cases h
      · cases h; simp; omega
    · have := rvS_bound k _ _ _ t v n h
      simp; omega
/-- What bytes tell, if they are right: the value of the bytes ahead of an end. -/
def vVal : List UInt8 → Nat
  | [] => 0
  | c :: t => c.toNat % 128 + 128 * vVal t
/-- Bytes that are a number's, but for the last one's being 0. -/
def vFit : List UInt8 → Prop
  | [] => False
  | [c] => c.toNat < 128
  | c :: t => 128 ≤ c.toNat ∧ vFit t
theorem vFit_cons {c : UInt8} {t : List UInt8} (h : t ≠ []) : vFit (c :: t) ↔ 128 ≤ c.toNat ∧ vFit t := by
  cases t with
  | nil => exact absurd rfl h
  | cons x l => exact Iff.rfl
theorem vEnc_ne (n : Nat) : vEnc n ≠ [] := by
  by_cases h : 127 < n
  · rw [vEnc_hi h]; simp
  · rw [vEnc_lo (by omega)]; simp
theorem byte_of {c : UInt8} {n : Nat} (h : c.toNat = n) : UInt8.ofNat n = c := by rw [← h]; simp
theorem vEnc_last : ∀ (n : Nat), ∃ l c, vEnc n = l ++ [c] ∧ (l ≠ [] → c.toNat ≠ 0) := by
  intro n
  induction n using Nat.strongRecOn with
  | _ n ih =>
    by_cases h : 127 < n
    · obtain ⟨l, c, h1, h2⟩ := ih (n / 128) (by omega)
      rw [vEnc_hi h]
      refine ⟨UInt8.ofNat (n % 128 + 128) :: l, c, by rw [h1]; rfl, fun _ => ?_⟩
      by_cases hl : l = []
      · subst hl
        by_cases h3 : 127 < n / 128
        · rw [vEnc_hi h3] at h1
          have := vEnc_ne (n / 128 / 128)
          simp at h1
          exact absurd h1.2 this
        · rw [vEnc_lo (by omega)] at h1
          simp at h1
          rw [← h1]
          simp; omega
      · exact h2 hl
    · rw [vEnc_lo (by omega)]
      exact ⟨[], _, rfl, fun h => absurd rfl h⟩
/-- Right bytes are those that their value's are. -/
theorem vEnc_val : ∀ (t : List UInt8), vFit t → (t.length = 1 ∨ t.getLast?.map UInt8.toNat ≠ some 0) → vEnc (vVal t) = t ∧ (1 < t.length → 0 < vVal t)
  | [], h, _ => h.elim
  | [c], h, _ => by
    have h' : c.toNat < 128 := h
    simp only [vVal, Nat.mul_zero, Nat.add_zero]
    rw [Nat.mod_eq_of_lt h', vEnc_lo (by omega)]
    exact ⟨by rw [byte_of rfl], fun h => by simp at h⟩
  | c :: d :: t, h, hl => by
    obtain ⟨h1, h2⟩ := (vFit_cons (by simp)).1 h
    have hl' : (d :: t).getLast?.map UInt8.toNat ≠ some 0 := by
      rcases hl with hl | hl
      · simp at hl
      · simpa using hl
    obtain ⟨h3, h4⟩ := vEnc_val (d :: t) h2 (.inr hl')
    have hp : 0 < vVal (d :: t) := by
      cases t with
      | nil =>
        simp at hl'
        have h5 : d.toNat < 128 := h2
        simp only [vVal]; omega
      | cons x l => exact h4 (by simp)
    have hc := u8lt c
    simp only [vVal] at hp ⊢
    rw [vEnc_hi (by omega)]
    refine ⟨?_, fun _ => by omega⟩
    rw [show (c.toNat % 128 + 128 * (d.toNat % 128 + 128 * vVal t)) / 128 = d.toNat % 128 + 128 * vVal t by omega]
    rw [show vEnc (d.toNat % 128 + 128 * vVal t) = d :: t from h3, byte_of (c := c) (by omega)]
theorem vEnc_fit : ∀ n : Nat, vFit (vEnc n) ∧ vVal (vEnc n) = n := by
  intro n
  induction n using Nat.strongRecOn with
  | _ n ih =>
    by_cases h : 127 < n
    · obtain ⟨h1, h2⟩ := ih (n / 128) (by omega)
      rw [vEnc_hi h]
      have hb : (UInt8.ofNat (n % 128 + 128)).toNat = n % 128 + 128 := by simp; omega
      refine ⟨(vFit_cons (vEnc_ne _)).2 ⟨by omega, h1⟩, ?_⟩
      simp only [vVal, h2, hb]; omega
    · rw [vEnc_lo (by omega)]
      have hb : (UInt8.ofNat n).toNat = n := by simp; omega
      refine ⟨by simp only [vFit, hb]; omega, ?_⟩
      simp only [vVal, hb]; omega
theorem vVal_app : ∀ (p : List UInt8) (c : UInt8), vVal (p ++ [c]) = vVal p + c.toNat % 128 * 128 ^ p.length
  | [], c => by simp [vVal]
  | x :: p, c => by
    simp only [List.cons_append, vVal, vVal_app p c, List.length_cons, Nat.pow_succ]
    rw [Nat.mul_add, Nat.add_assoc, Nat.mul_comm (128 ^ p.length) 128, ← Nat.mul_assoc, ← Nat.mul_assoc, Nat.mul_comm (c.toNat % 128) 128]
theorem vFit_app : ∀ (p : List UInt8) (c : UInt8), (∀ x ∈ p, 128 ≤ x.toNat) → c.toNat < 128 → vFit (p ++ [c])
  | [], c, _, h => h
  | x :: p, c, hp, h => by
    rw [List.cons_append]
    exact (vFit_cons (by simp)).2 ⟨hp x (by simp), vFit_app p c (fun y hy => hp y (by simp [hy])) h⟩
theorem v_canon {p : List UInt8} {c : UInt8} (hp : ∀ x ∈ p, 128 ≤ x.toNat) (hc : c.toNat < 128) : (vEnc (vVal (p ++ [c])) == p ++ [c]) = !decide (c.toNat = 0 ∧ 0 < p.length) := by
  by_cases h : c.toNat = 0 ∧ 0 < p.length
  · rw [decide_eq_true h]
    obtain ⟨l, d, h1, h2⟩ := vEnc_last (vVal (p ++ [c]))
    rw [Bool.not_true, beq_eq_false_iff_ne]
    intro he
    rw [h1] at he
    have h3 := List.append_inj' he rfl
    have h4 : d = c := by simpa using h3.2
    subst h4
    exact h2 (fun hl => by rw [h3.1] at hl; subst hl; simp at h) h.1
  · rw [decide_eq_false h]
    have := (vEnc_val (p ++ [c]) (vFit_app p c hp hc) (by
      by_cases hl : p = []
      · subst hl; exact .inl rfl
      · refine .inr ?_
        have : 0 < p.length := by cases p with | nil => exact absurd rfl hl | cons => simp
        simp; omega)).1
    rw [this]; simp
theorem l_specVar : ∀ (k e acc m b j : Nat) (a p : List UInt8), k + e = 5 → m = 128 ^ e → p = (a.drop b).take e → p.length = e → (∀ x ∈ p, 128 ≤ x.toNat) → acc = vVal p → acc < m → b ≤ a.length → a.length ≤ 4294967296 → ∃ q, L_spec_ReadVar_1 (k + 1 + j) (a, (b : Int), (acc : Int), (m : Int), ((b + e : Nat) : Int)) = some q ∧ Sum.elim (fun _ => ((0 : Int), (0 : Int), false)) (fun v => v) q = outV b (rvS k e acc m (a.drop (b + e))) := by
  intro k
  induction k with
  | zero =>
    intro e acc m b j a p hk hm hp hpl hp8 hv hacc hb ha
    have he : e = 5 := by omega
    subst he
    rw [show 0 + 1 + j = j + 1 by omega, e_L_spec_ReadVar_1]
    have w1 : IntKind.i64.wrap ((b : Int) + 5) = ((b + 5 : Nat) : Int) := by rw [wrap_ok (by omega) (by omega)]; omega
    simp only [w1, bif_bind, Option.bind_some, Sum.elim_inl, show ¬ ((b + 5 : Nat) : Int) < ((b + 5 : Nat) : Int) by omega, decide_false, cond_false]
    cases decide (((b + 5 : Nat) : Int) < (a.length : Int)) <;> exact ⟨_, rfl, rfl⟩
  | succ k ih =>
    intro e acc m b j a p hk hm hp hpl hp8 hv hacc hb ha
    have he : e ≤ 4 := by omega
    have hmB : m ≤ 268435456 := by
      rw [hm]; exact Nat.le_trans (Nat.pow_le_pow_right (by decide) he) (by decide)
    rw [show k + 1 + 1 + j = (k + 1 + j) + 1 by omega, e_L_spec_ReadVar_1]
    have w1 : IntKind.i64.wrap ((b : Int) + 5) = ((b + 5 : Nat) : Int) := by rw [wrap_ok (by omega) (by omega)]; omega
    have e1 : ((b + e : Nat) : Int) < ((b + 5 : Nat) : Int) := by omega
    by_cases hlt : b + e < a.length
    · have h2 : ((b + e : Nat) : Int) < (a.length : Int) := by omega
      have hd : a.drop (b + e) = a[b + e] :: a.drop (b + e + 1) := by rw [List.drop_eq_getElem_cons hlt]
      have hc := u8lt a[b + e]
      have hsub : (a.drop b).take (e + 1) = p ++ [a[b + e]] := by
        rw [List.take_add_one, ← hp, List.getElem?_drop, List.getElem?_eq_getElem hlt]; rfl
      rw [hd]
      generalize hcc : a[b + e] = c at *
      have w2 : IntKind.i64.wrap (c.toNat : Int) = (c.toNat : Int) := wrap_ok (by omega) (by omega)
      have w4 : IntKind.i64.wrap (((b + e : Nat) : Int) + 1) = ((b + (e + 1) : Nat) : Int) := by
        rw [wrap_ok (by omega) (by omega)]; omega
      simp only [h2, w1, e1, decide_true, cond_true, Option.bind_some, Sum.elim_inl, Int.natCast_nonneg, if_true, Int.toNat_natCast, getD_at hlt, hcc, w2, w4]
      by_cases hs : c.toNat < 128
      · have hp2 : c.toNat * m < 128 * m := Nat.mul_lt_mul_of_pos_right hs (show 0 < m by rw [hm]; exact Nat.pow_pos (by decide))
        have e2 : (c.toNat : Int) < 128 := by omega
        have w3 : IntKind.i64.wrap ((acc : Int) + IntKind.i64.wrap ((c.toNat : Int).tmod 128 * (m : Int))) = ((acc + c.toNat * m : Nat) : Int) := by
          rw [Int.tmod_eq_emod_of_nonneg (by omega), Int.emod_eq_of_lt (by omega) (by omega), wrap_ok (n := (c.toNat : Int) * (m : Int)) (by omega) (by omega), wrap_ok (by omega) (by omega)]; omega
        have hval : vVal (p ++ [c]) = acc + c.toNat * m := by
          rw [vVal_app, Nat.mod_eq_of_lt hs, hpl, ← hm, hv]
        simp only [e2, decide_true, cond_true, w3, rvS, hs, if_true]
        by_cases hbig : 1000000000 < acc + c.toNat * m
        · have e5 : (1000000000 : Int) < ((acc + c.toNat * m : Nat) : Int) := by omega
          simp only [e5, hbig, decide_true, cond_true, Option.bind_some, Sum.elim_inl, or_true, if_true]
          exact ⟨_, rfl, rfl⟩
        · have e5 : ¬ (1000000000 : Int) < ((acc + c.toNat * m : Nat) : Int) := by omega
          have g1 : ((b + (e + 1) : Nat) : Int) ≤ (a.length : Int) := by omega
          have g2 : (b : Int) ≤ ((b + (e + 1) : Nat) : Int) := by omega
          simp only [e5, g1, g2, and_self, true_and, if_true, decide_false, cond_false, v_l01Var (a := ((acc + c.toNat * m : Nat) : Int)) (by omega) (by omega), Option.bind_some, Sum.elim_inl, Int.toNat_natCast]
          rw [List.drop_take, show b + (e + 1) - b = e + 1 by omega, hsub, ← hval, v_canon hp8 hs, hpl]
          by_cases hz : c.toNat = 0 ∧ 0 < e
          · simp only [hz, and_self, decide_true, Bool.not_true, Bool.not_false, cond_true, true_or, if_true]
            exact ⟨_, rfl, rfl⟩
          · rw [if_neg (by rw [hval]; omega)]
            simp only [hz, decide_false, Bool.not_true, Bool.not_false, cond_false]
            exact ⟨_, rfl, by simp only [Sum.elim_inr, outV]; rw [w4]⟩
      · have hp2 : (c.toNat - 128) * m ≤ 127 * m := Nat.mul_le_mul_right _ (by omega)
        have e2 : ¬ (c.toNat : Int) < 128 := by omega
        have hcm : ((c.toNat : Int).tmod 128 * (m : Int)) = (((c.toNat - 128) * m : Nat) : Int) := by
          rw [Int.tmod_eq_emod_of_nonneg (by omega), show (c.toNat : Int) % 128 = ((c.toNat - 128 : Nat) : Int) by omega, Int.natCast_mul]
        have w3 : IntKind.i64.wrap ((acc : Int) + IntKind.i64.wrap ((c.toNat : Int).tmod 128 * (m : Int))) = ((acc + (c.toNat - 128) * m : Nat) : Int) := by
          rw [hcm, wrap_ok (n := (((c.toNat - 128) * m : Nat) : Int)) (by omega) (by omega), wrap_ok (by omega) (by omega)]; omega
        have w5 : IntKind.i64.wrap ((m : Int) * 128) = ((m * 128 : Nat) : Int) := by rw [wrap_ok (by omega) (by omega)]; omega
        simp only [e2, decide_false, cond_false, w3, w5, rvS, hs, if_false]
        refine ih (e + 1) (acc + (c.toNat - 128) * m) (m * 128) b j a (p ++ [c]) (by omega) (by rw [hm, Nat.pow_succ]) hsub.symm (by simp [hpl]) (fun x hx => ?_) ?_ (by omega) hb ha
        · rcases List.mem_append.1 hx with hx | hx
          · exact hp8 x hx
          · simp at hx; subst hx; omega
        · rw [vVal_app, hpl, ← hm, hv, show c.toNat % 128 = c.toNat - 128 by omega]
    · have h2 : ¬ ((b + e : Nat) : Int) < (a.length : Int) := by omega
      simp only [h2, decide_false, cond_false, Option.bind_some, Sum.elim_inl]
      rw [List.drop_eq_nil_of_le (by omega)]
      exact ⟨.inl (), rfl, rfl⟩
theorem v_specVar {a : List UInt8} {b : Nat} (hb : b ≤ a.length) (ha : a.length ≤ 4294967296) : T_spec_ReadVar (a, (b : Int)) = some (outV b (rvS 5 0 0 1 (a.drop b))) := by
  rw [e_T_spec_ReadVar, e_T_spec_l01In]
  have h1 : (0 : Int) ≤ (b : Int) := by omega
  have h2 : (b : Int) ≤ (a.length : Int) := by omega
  obtain ⟨q, h3, h4⟩ := l_specVar 5 0 0 1 b 18446744073709551610 a [] rfl rfl (by simp) rfl (by simp) rfl (by decide) hb ha
  simp only [Nat.add_zero, Int.natCast_zero, Int.natCast_one] at h3 h4
  have h5 : L_spec_ReadVar_1 fuel (a, (b : Int), 0, 1, (b : Int)) = some q := h3
  simp only [h1, h2, decide_true, cond_true, Bool.not_true, cond_false, Option.bind_some, Sum.elim_inl, h5]
  rw [← h4]
  cases q <;> rfl
/-- What is read is what its number's bytes are. -/
theorem rvS_enc : ∀ (k i acc m : Nat) (t p : List UInt8), k + i = 5 → p.length = i → (∀ x ∈ p, 128 ≤ x.toNat) → acc = vVal p → m = 128 ^ i → ∀ v n, rvS k i acc m t = some (v, n) → ∃ q, t = q ++ t.drop (n - i) ∧ q.length = n - i ∧ p ++ q = vEnc v
  | 0, _, _, _, _, _, _, _, _, _, _, v, n, h => by simp [rvS] at h
  | _ + 1, _, _, _, [], _, _, _, _, _, _, v, n, h => by simp [rvS] at h
  | k + 1, i, acc, m, c :: t, p, hk, hpl, hp, hv, hm, v, n, h => by
    simp only [rvS] at h
    split at h
    · rename_i hs
      split at h
      · cases h
      · rename_i hz
        cases h
        refine ⟨[c], by simp, by simp, ?_⟩
        have h1 : vVal (p ++ [c]) = acc + c.toNat * m := by rw [vVal_app, Nat.mod_eq_of_lt hs, hpl, ← hm, hv]
        have h2 := v_canon hp hs
        rw [decide_eq_false (by rw [hpl]; omega), Bool.not_false, beq_iff_eq, h1] at h2
        exact h2.symm
    · rename_i hs
      have hc := u8lt c
      obtain ⟨q, h1, h2, h3⟩ := rvS_enc k (i + 1) _ _ t (p ++ [c]) (by omega) (by simp [hpl]) (fun x hx => by
        rcases List.mem_append.1 hx with hx | hx
        · exact hp x hx
        · simp at hx; subst hx; omega) (by rw [vVal_app, hpl, ← hm, hv, show c.toNat % 128 = c.toNat - 128 by omega]) (by rw [hm, Nat.pow_succ]) v n h
      have hn := (rvS_bound _ _ _ _ _ _ _ h).2.1
      refine ⟨c :: q, ?_, by simp; omega, by rw [← h3]; simp⟩
      rw [show n - i = (n - (i + 1)) + 1 by omega, List.drop_succ_cons, List.cons_append, ← h1]
def numR (a : List UInt8) (p : Nat) (bad : Bool) : Int × List UInt8 × Int × Bool :=
  bif bad then (0, a, (p : Int), true) else match rvS 5 0 0 1 (a.drop p) with
    | none => (0, a, (p : Int), true)
    | some (v, n) => ((v : Int), a, ((p + n : Nat) : Int), false)
theorem n_impl {a : List UInt8} {p : Nat} {bad : Bool} (hp : p ≤ a.length) (ha : a.length ≤ 4294967296) : T___impl_scanner__number (a, (p : Int), bad) = some (numR a p bad) := by
  rw [e_T___impl_scanner__number, v_implVar hp ha]
  cases bad <;> simp only [numR, cond_true, cond_false, Option.bind_some, Sum.elim_inl]
  cases rvS 5 0 0 1 (a.drop p) with
  | none => rfl
  | some q => rfl
theorem n_spec {a : List UInt8} {p : Nat} {bad : Bool} (hp : p ≤ a.length) (ha : a.length ≤ 4294967296) : T_spec_l05Var (a, (p : Int), bad) = some (numR a p bad) := by
  rw [e_T_spec_l05Var, v_specVar hp ha]
  cases bad <;> simp only [numR, cond_true, cond_false, Option.bind_some, Sum.elim_inl]
  cases rvS 5 0 0 1 (a.drop p) with
  | none => rfl
  | some q => rfl
def takR (a : List UInt8) (p : Nat) (bad : Bool) (n : Nat) : List UInt8 × List UInt8 × Int × Bool :=
  bif bad || decide (a.length - p < n) then ([], a, (p : Int), true) else ((a.drop p).take n, a, ((p + n : Nat) : Int), false)
theorem t_impl {a : List UInt8} {p n : Nat} {bad : Bool} (hp : p ≤ a.length) (ha : a.length ≤ 4294967296) (hn : n ≤ 4294967296) : T___impl_scanner__take ((a, (p : Int), bad), (n : Int)) = some (takR a p bad n) := by
  rw [e_T___impl_scanner__take]
  have w1 : IntKind.i64.wrap ((a.length : Int) - (p : Int)) = ((a.length - p : Nat) : Int) := by rw [wrap_ok (by omega) (by omega)]; omega
  have w2 : IntKind.i64.wrap ((p : Int) + (n : Int)) = ((p + n : Nat) : Int) := by rw [wrap_ok (by omega) (by omega)]; omega
  have w3 : IntKind.i64.wrap (((p + n : Nat) : Int) - (n : Int)) = (p : Int) := by rw [wrap_ok (by omega) (by omega)]; omega
  cases bad
  · by_cases h : a.length - p < n
    · have h' : ((a.length - p : Nat) : Int) < (n : Int) := by omega
      simp only [takR, w1, h, h', decide_true, cond_true, cond_false, Bool.false_or, Option.bind_some, Sum.elim_inl]
    · have h' : ¬ ((a.length - p : Nat) : Int) < (n : Int) := by omega
      have g1 : ((p + n : Nat) : Int) ≤ (a.length : Int) := by omega
      have g2 : (p : Int) ≤ ((p + n : Nat) : Int) := by omega
      simp only [takR, w1, w2, w3, h, h', g1, g2, decide_false, cond_false, Bool.false_or, Option.bind_some, Sum.elim_inl, Int.natCast_nonneg, true_and, if_true, Int.toNat_natCast, List.drop_take, Nat.add_sub_cancel_left]
  · rfl
theorem t_spec {a : List UInt8} {p n : Nat} {bad : Bool} (hp : p ≤ a.length) (ha : a.length ≤ 4294967296) (hn : n ≤ 4294967296) : T_spec_l05Take ((a, (p : Int), bad), (n : Int)) = some (takR a p bad n) := by
  have := t_impl (bad := bad) hp ha hn
  rw [e_T___impl_scanner__take] at this
  rw [e_T_spec_l05Take]
  exact this
def oneR (a : List UInt8) (p : Nat) (bad : Bool) : Int × List UInt8 × Int × Bool :=
  bif bad then (0, a, (p : Int), true) else match a.drop p with
    | [] => (0, a, (p : Int), true)
    | c :: _ => ((c.toNat : Int), a, ((p + 1 : Nat) : Int), false)
theorem take_one {a : List UInt8} {p : Nat} (hp : p ≤ a.length) : (takR a p false 1) = match a.drop p with
    | [] => ([], a, (p : Int), true)
    | c :: _ => ([c], a, ((p + 1 : Nat) : Int), false) := by
  unfold takR
  have hl : (a.drop p).length = a.length - p := by simp
  cases hd : a.drop p with
  | nil =>
    rw [hd, List.length_nil] at hl
    have hq : a.length - p < 1 := by omega
    rw [decide_eq_true hq]; rfl
  | cons c t =>
    rw [hd] at hl; simp at hl
    have hq : ¬ a.length - p < 1 := by omega
    rw [decide_eq_false hq]; simp
theorem o_impl {a : List UInt8} {p : Nat} {bad : Bool} (hp : p ≤ a.length) (ha : a.length ≤ 4294967296) : T___impl_scanner__octet (a, (p : Int), bad) = some (oneR a p bad) := by
  rw [e_T___impl_scanner__octet, show (1 : Int) = ((1 : Nat) : Int) from rfl, t_impl hp ha (by decide)]
  cases bad
  · rw [take_one hp]
    unfold oneR
    cases a.drop p with
    | nil => rfl
    | cons c t =>
      have hc := u8lt c
      simp only [Option.bind_some, List.length_singleton, cond_false]
      simp only [show ([c] == ([] : List UInt8)) = false from rfl, cond_false]
      rw [if_pos (by decide)]
      simp only [List.getD_cons_zero]
      rw [wrap_ok (by omega) (by omega)]
  · rfl
theorem o_spec {a : List UInt8} {p : Nat} {bad : Bool} (hp : p ≤ a.length) (ha : a.length ≤ 4294967296) : T_spec_l05One (a, (p : Int), bad) = some (oneR a p bad) := by
  rw [e_T_spec_l05One, show (1 : Int) = ((1 : Nat) : Int) from rfl, t_spec hp ha (by decide)]
  cases bad
  · rw [take_one hp]
    unfold oneR
    cases a.drop p with
    | nil => rfl
    | cons c t =>
      have hc := u8lt c
      simp only [Option.bind_some, List.length_singleton, cond_false]
      rw [if_pos (by decide)]
      simp only [List.getD_cons_zero]
      rw [wrap_ok (by omega) (by omega)]
  · rfl
/-- A text with its length ahead; the program wants it short. -/
def shR (lim : Nat) (a : List UInt8) (p : Nat) (bad : Bool) : List UInt8 × List UInt8 × Int × Bool :=
  bif bad then ([], a, (p : Int), true) else match rvS 5 0 0 1 (a.drop p) with
    | none => ([], a, (p : Int), true)
    | some (v, n) => takR a (p + n) (decide (lim < v)) v
theorem rv_le {a : List UInt8} {p v n : Nat} (hp : p ≤ a.length) (h : rvS 5 0 0 1 (a.drop p) = some (v, n)) : v ≤ 1000000000 ∧ 0 < n ∧ p + n ≤ a.length := by
  have := rvS_bound _ _ _ _ _ _ _ h
  rw [List.length_drop] at this
  omega
theorem s_impl {a : List UInt8} {p : Nat} {bad : Bool} (hp : p ≤ a.length) (ha : a.length ≤ 4294967296) : T___impl_scanner__short (a, (p : Int), bad) = some (shR 20000 a p bad) := by
  rw [e_T___impl_scanner__short, n_impl hp ha]
  cases bad
  · simp only [numR, shR, cond_false, Option.bind_some]
    cases hr : rvS 5 0 0 1 (a.drop p) with
    | none =>
      simp only [show ¬ (20000 : Int) < 0 by decide, decide_false, cond_false, Option.bind_some, Sum.elim_inl]
      rw [show (0 : Int) = ((0 : Nat) : Int) from rfl, t_impl hp ha (by decide)]
      rfl
    | some q =>
      obtain ⟨v, n⟩ := q
      obtain ⟨h1, h2, h3⟩ := rv_le hp hr
      by_cases h : 20000 < v
      · have h' : (20000 : Int) < (v : Int) := by omega
        simp only [h, h', decide_true, cond_true, Option.bind_some, Sum.elim_inl]
        rw [t_impl h3 ha (by omega)]; rfl
      · have h' : ¬ (20000 : Int) < (v : Int) := by omega
        simp only [h, h', decide_false, cond_false, Option.bind_some, Sum.elim_inl]
        rw [t_impl h3 ha (by omega)]; rfl
  · simp only [numR, shR, cond_true, Option.bind_some, show ¬ (20000 : Int) < 0 by decide, decide_false, cond_false, Sum.elim_inl]
    rw [show (0 : Int) = ((0 : Nat) : Int) from rfl, t_impl hp ha (by decide)]
    rfl
theorem s_spec {a : List UInt8} {p : Nat} {bad : Bool} (hp : p ≤ a.length) (ha : a.length ≤ 4294967296) : T_spec_l05ReadShort (a, (p : Int), bad) = some (shR 1000000000 a p bad) := by
  rw [e_T_spec_l05ReadShort, n_spec hp ha]
  cases bad
  · simp only [numR, shR, cond_false, Option.bind_some]
    cases hr : rvS 5 0 0 1 (a.drop p) with
    | none =>
      simp only [Option.bind_some]
      rw [show (0 : Int) = ((0 : Nat) : Int) from rfl, t_spec hp ha (by decide)]
      rfl
    | some q =>
      obtain ⟨v, n⟩ := q
      obtain ⟨h1, h2, h3⟩ := rv_le hp hr
      simp only [Option.bind_some]
      have hv : ¬ 1000000000 < v := by omega
      rw [t_spec h3 ha (by omega), decide_eq_false hv]; rfl
  · simp only [numR, shR, cond_true, Option.bind_some]
    rw [show (0 : Int) = ((0 : Nat) : Int) from rfl, t_spec hp ha (by decide)]
    rfl
theorem x_isDaemonI (a : Int) : T_impl_isDaemon a = some (decide (1 ≤ a ∧ a ≤ 5)) := by
  rw [e_T_impl_isDaemon, (x_inRange _ _ _).2]; rfl
theorem levI (d : Int) : (d == 1 || d == 2) = decide ((1 : Int) ≤ d ∧ d ≤ 2) := by
  by_cases h1 : d = 1
  · subst h1; rfl
  · by_cases h2 : d = 2
    · subst h2; rfl
    · have : ¬ ((1 : Int) ≤ d ∧ d ≤ 2) := by omega
      simp [h1, h2, this]
def itemB (k d l : Int) (t : List UInt8) : Bool := decide ((1 ≤ k ∧ k ≤ 60) ∧ (1 ≤ d ∧ d ≤ 5) ∧ (1 ≤ l ∧ l ≤ 2) ∧ (t.length : Int) ≤ 60)
theorem x_ItemOk (k d l : Int) (t : List UInt8) : T_spec_ItemOk (k, d, l, t) = some (itemB k d l t) ∧ T_impl_ItemOk (k, d, l, t) = some (itemB k d l t) := by
  rw [e_T_spec_ItemOk, e_T_impl_ItemOk]
  simp only [(x_inRange _ _ _).1, (x_inRange _ _ _).2, x_isDaemonI, x_isLevel, levI, Option.bind_some, itemB]
  by_cases h1 : (1 ≤ k ∧ k ≤ 60) <;> by_cases h2 : (1 ≤ d ∧ d ≤ 5) <;> by_cases h3 : (1 ≤ l ∧ l ≤ 2) <;> simp [h1, h2, h3]
/-- An item's bytes. -/
def itemT (k d l : Int) (t : List UInt8) : List UInt8 := vEnc k.toNat ++ [UInt8.ofNat d.toNat] ++ [UInt8.ofNat l.toNat] ++ (vEnc t.length ++ t)
theorem v_byte {d : Int} (h0 : 0 ≤ d) (h1 : d < 256) : T_spec_l05Byte d = some [UInt8.ofNat d.toNat] := by
  rw [e_T_spec_l05Byte, u8w h0 h1]; rfl
theorem v_short {t : List UInt8} (h : t.length ≤ 1048576) : T_spec_l05Short t = some (vEnc t.length ++ t) := by
  rw [e_T_spec_l05Short, v_l01Var (by omega) (by omega)]
  have := vEnc_len t.length
  simp only [Option.bind_some, Int.toNat_natCast]
  rw [if_neg (by omega)]
theorem v_ItemText (k d l : Int) (t : List UInt8) : T_spec_ItemText (k, d, l, t) = some (bif itemB k d l t then (itemT k d l t, true) else ([], false)) := by
  rw [e_T_spec_ItemText, (x_ItemOk k d l t).1]
  cases h : itemB k d l t
  · rfl
  · simp only [itemB, decide_eq_true_eq] at h
    obtain ⟨h1, h2, h3, h4⟩ := h
    simp only [Option.bind_some, Bool.not_true, cond_false, v_l01Var (a := k) (by omega) (by omega), v_byte (d := d) (by omega) (by omega), v_byte (d := l) (by omega) (by omega), v_short (t := t) (by omega)]
    have e1 := vEnc_len k.toNat
    have e2 := vEnc_len t.length
    simp only [List.length_append, List.length_singleton]
    rw [if_neg (by omega), if_neg (by omega), if_neg (by omega)]
    rfl
theorem bad_num {a : List UInt8} {p : Nat} : numR a p true = (0, a, (p : Int), true) := rfl
theorem bad_one {a : List UInt8} {p : Nat} : oneR a p true = (0, a, (p : Int), true) := rfl
theorem bad_sh {a : List UInt8} {p n : Nat} : shR n a p true = ([], a, (p : Int), true) := rfl
theorem bad_tak {a : List UInt8} {p n : Nat} : takR a p true n = ([], a, (p : Int), true) := rfl
theorem num_enc {a : List UInt8} {p v n : Nat} (h : rvS 5 0 0 1 (a.drop p) = some (v, n)) : a.drop p = vEnc v ++ a.drop (p + n) := by
  obtain ⟨q, h1, h2, h3⟩ := rvS_enc 5 0 0 1 _ [] rfl rfl (by simp) rfl rfl v n h
  rw [List.nil_append] at h3
  rw [Nat.sub_zero, List.drop_drop, h3] at h1
  exact h1
theorem i_impl {a : List UInt8} (ha : a.length ≤ 4294967296) : ∃ r, T_spec_ReadItem a = some r ∧ T_impl_ReadItem a = some r := by
  have none4 : ∀ (x : Int × Int × Int × List UInt8) (q : Bool), (bif true then (some (((0 : Int), (0 : Int), (0 : Int), ([] : List UInt8)), false)) else some (x, q)) = some ((0, 0, 0, []), false) := fun _ _ => rfl
  rw [e_T_spec_ReadItem, e_T_impl_ReadItem]
  rw [show (0 : Int) = ((0 : Nat) : Int) from rfl, n_spec (Nat.zero_le _) ha, n_impl (Nat.zero_le _) ha]
  simp only [numR, cond_false, Option.bind_some]
  cases hr : rvS 5 0 0 1 (a.drop 0) with
  | none =>
    simp only [o_spec (Nat.zero_le _) ha, o_impl (Nat.zero_le _) ha, s_spec (Nat.zero_le _) ha, s_impl (Nat.zero_le _) ha, bad_one, bad_sh, Option.bind_some, e_T___impl_scanner__done, v_ItemText, Bool.not_true, cond_false, cond_true, Sum.elim_inl, Bool.not_false]
    exact ⟨_, rfl, rfl⟩
  | some q =>
    obtain ⟨k, n⟩ := q
    obtain ⟨h1, h2, h3⟩ := rv_le (Nat.zero_le _) hr
    have hk := num_enc hr
    rw [List.drop_zero] at hk
    simp only [Nat.zero_add] at h3 hk ⊢
    simp only [o_spec h3 ha, o_impl h3 ha, Option.bind_some]
    cases hd : a.drop n with
    | nil =>
      simp only [oneR, hd, cond_false, Option.bind_some]
      simp only [o_spec h3 ha, o_impl h3 ha, s_spec h3 ha, s_impl h3 ha, bad_one, bad_sh, Option.bind_some, e_T___impl_scanner__done, v_ItemText, Bool.not_true, cond_false, cond_true, Sum.elim_inl, Bool.not_false]
      exact ⟨_, rfl, rfl⟩
    | cons d t =>
      have h4 : n + 1 ≤ a.length := by
        have : (a.drop n).length = a.length - n := by simp
        rw [hd] at this; simp at this; omega
      have ht : a.drop (n + 1) = t := by rw [← List.drop_drop, hd]; rfl
      simp only [oneR, hd, cond_false, Option.bind_some]
      simp only [o_spec h4 ha, o_impl h4 ha, Option.bind_some]
      cases hl : t with
      | nil =>
        subst hl
        simp only [oneR, ht, cond_false, Option.bind_some]
        simp only [s_spec h4 ha, s_impl h4 ha, bad_sh, Option.bind_some, e_T___impl_scanner__done, v_ItemText, Bool.not_true, cond_false, cond_true, Sum.elim_inl, Bool.not_false]
        exact ⟨_, rfl, rfl⟩
      | cons l u =>
        subst hl
        have h5 : n + 1 + 1 ≤ a.length := by
          have : (a.drop (n + 1)).length = a.length - (n + 1) := by simp
          rw [ht] at this; simp at this; omega
        have hu : a.drop (n + 1 + 1) = u := by rw [← List.drop_drop, ht]; rfl
        simp only [oneR, ht, cond_false, Option.bind_some]
        simp only [s_spec h5 ha, s_impl h5 ha, shR, cond_false, Option.bind_some]
        cases hs : rvS 5 0 0 1 (a.drop (n + 1 + 1)) with
        | none =>
          simp only [Option.bind_some, e_T___impl_scanner__done, v_ItemText, Bool.not_true, cond_false, cond_true, Sum.elim_inl, Bool.not_false]
          exact ⟨_, rfl, rfl⟩
        | some q =>
          obtain ⟨v, m⟩ := q
          obtain ⟨g1, g2, g3⟩ := rv_le h5 hs
          have hv := num_enc hs
          rw [hu] at hv
          simp only [takR]
          by_cases hav : a.length - (n + 1 + 1 + m) < v
          · simp only [hav, decide_true, Bool.or_true, cond_true, Option.bind_some, e_T___impl_scanner__done, v_ItemText, Bool.not_true, cond_false, Sum.elim_inl, Bool.not_false]
            exact ⟨_, rfl, rfl⟩
          · have hx : ¬ 1000000000 < v := by omega
            generalize hz : (a.drop (n + 1 + 1 + m)).take v = z
            have hzl : z.length = v := by rw [← hz]; simp; omega
            have hall : a = vEnc k ++ (d :: l :: (vEnc v ++ (z ++ a.drop (n + 1 + 1 + m + v)))) := by
              have hq : a.drop (n + 1 + 1 + m + v) = (a.drop (n + 1 + 1 + m)).drop v := by rw [List.drop_drop]
              rw [hq, ← hz, List.take_append_drop, ← hv, ← hd]
              exact hk
            simp only [hav, hx, decide_false, Bool.or_false, cond_false, Option.bind_some, e_T___impl_scanner__done, v_ItemText]
            by_cases hbig : 20000 < v
            · have hb : itemB (k : Int) (d.toNat : Int) (l.toNat : Int) z = false := by
                simp only [itemB, decide_eq_false_iff_not]; omega
              simp only [hbig, hb, decide_true, cond_true, cond_false, Bool.not_true, Bool.not_false, Option.bind_some, Sum.elim_inl]
              exact ⟨_, rfl, rfl⟩
            · simp only [hbig, decide_false, cond_false, Bool.not_false, cond_true, Option.bind_some, (x_ItemOk _ _ _ _).2]
              have htext : itemB (k : Int) (d.toNat : Int) (l.toNat : Int) z = true → (itemT (k : Int) (d.toNat : Int) (l.toNat : Int) z == a) = (((n + 1 + 1 + m + v : Nat) : Int) == (a.length : Int)) := by
                intro _
                have e1 : itemT (k : Int) (d.toNat : Int) (l.toNat : Int) z = vEnc k ++ (d :: l :: (vEnc v ++ z)) := by
                  simp only [itemT, Int.toNat_natCast, byte_of (c := d) rfl, byte_of (c := l) rfl, hzl]
                  simp
                rw [e1]
                by_cases hend : n + 1 + 1 + m + v = a.length
                · have : a.drop (n + 1 + 1 + m + v) = [] := List.drop_eq_nil_of_le (by omega)
                  rw [this, List.append_nil] at hall
                  rw [← hall, hend]; simp
                · have hne : a.drop (n + 1 + 1 + m + v) ≠ [] := by simp; omega
                  have h6 : ¬ vEnc k ++ (d :: l :: (vEnc v ++ z)) = a := by
                    intro h
                    rw [hall] at h
                    have := congrArg List.length h
                    simp at this
                    omega
                  rw [beq_eq_false_iff_ne.2 h6, beq_eq_false_iff_ne.2 (by omega)]
              cases hb : itemB (k : Int) (d.toNat : Int) (l.toNat : Int) z with
              | false =>
                cases (((n + 1 + 1 + m + v : Nat) : Int) == (a.length : Int)) <;> exact ⟨_, rfl, rfl⟩
              | true =>
                simp only [cond_true, Bool.not_true, cond_false, Option.bind_some, htext hb]
                cases (((n + 1 + 1 + m + v : Nat) : Int) == (a.length : Int)) <;> exact ⟨_, rfl, rfl⟩
theorem law_FnExactReadItem (a : List UInt8) (h : ET.str.ok a) : T_laws_FnExactReadItem a = some true := by
  rw [e_T_laws_FnExactReadItem]
  by_cases h1 : 1048576 < (a.length : Int)
  · simp [h1]
  · obtain ⟨⟨⟨k, d, l, t⟩, ok⟩, h2, h3⟩ := i_impl (a := a) (by omega)
    simp only [h1, decide_false, cond_false, h2, h3, Option.bind_some, e_T_laws_eqItem, beq_self_eq_true, Bool.not_true, Sum.elim_inl]
end Xs
end Go.Proofs.Ytfepabohinkpgaa
