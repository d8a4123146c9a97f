/- What the reference's function answers, and the program's: the same. -/
import Derived.Test.YtainknkfjekngaaDoorXMgPd
namespace Go.Proofs.YtainknkfjekngaaDoor
open Go Vm
set_option linter.unusedVariables false
set_option linter.unusedSimpArgs false
namespace Xs
theorem fuelS1 : ∃ n, fuel = n + 1 := ⟨fuel - 1, by simp only [fuel]⟩
theorem srt_adj {α : Type} {f : α → List UInt8} : ∀ {l : List α}, (∀ i x y, l[i]? = some x → l[i + 1]? = some y → Op.bytesLess (f x) (f y) = true) → Srt f l
  | [], _ => List.Pairwise.nil
  | [x], _ => List.pairwise_singleton ..
  | x :: y :: l, h => by
    have ih := srt_adj (f := f) (l := y :: l) (fun i a b h1 h2 => h (i + 1) a b (by simpa using h1) (by simpa using h2))
    have hxy := h 0 x y rfl rfl
    refine List.pairwise_cons.2 ⟨fun z hz => ?_, ih⟩
    rcases List.mem_cons.1 hz with rfl | hz
    · exact hxy
    · exact bl_trans hxy ((List.pairwise_cons.1 ih).1 z hz)
theorem runL_in {α : Type} {p : Nat → α → Bool} : ∀ (l : List α) (k : Nat), runL (fun i y (_ : Unit) => bif p i y then (.inl () : Unit ⊕ Bool) else .inr false) k l () = .inl () → ∀ (i : Nat) y, l[i]? = some y → p (k + i) y = true
  | [], _, _, i, y, h => by simp at h
  | x :: l, k, h, i, y, hy => by
    simp only [runL] at h
    cases hp : p k x with
    | false => rw [hp] at h; cases h
    | true =>
      rw [hp] at h
      cases i with
      | zero => simp at hy; subst hy; exact hp
      | succ i =>
        have := runL_in l (k + 1) h i y (by simpa using hy)
        rw [show k + (i + 1) = k + 1 + i by omega]; exact this
theorem up_lt {z y : List UInt8} (h : upB z y = true) : Op.bytesLess z y = true := by
  unfold upB at h
  simp only [Bool.not_eq_true', Bool.or_eq_false_iff] at h
  exact bl_tri h.1 (beq_eq_false_iff_ne.1 h.2)
theorem okM_srt {m : List (List UInt8)} (h : okM m = true) : Srt id m ∧ 0 < m.length ∧ m.length ≤ 8 := by
  unfold okM at h
  simp only [Bool.and_eq_true, decide_eq_true_eq] at h
  obtain ⟨h1, h2⟩ := h
  refine ⟨srt_adj fun i x y hx hy => ?_, by omega, by omega⟩
  rcases runP_false m m 0 with h3 | h3
  · have := runL_in (p := fun i y => pv y && ordB m i y) m 0 h3 (i + 1) y hy
    rw [Nat.zero_add] at this
    simp only [Bool.and_eq_true, ordB, decide_eq_true (show 0 < i + 1 by omega), cond_true, Nat.add_sub_cancel, List.getD_eq_getElem?_getD, hx, Option.getD_some] at this
    exact up_lt this.2
  · rw [h3] at h2; cases h2
/-- A right table. -/
theorem tb_true {a : List GroupT} (h : (ET.sl false (.pair .str (.sl false .str))).small a) (ht : T_impl_TableOk a = some true) : TabOk 6 8 a ∧ ∀ y ∈ a, 0 < y.2.length := by
  rw [e_T_impl_TableOk, tb_impl h] at ht
  rcases runG_false a a 0 with h1 | h1
  · rw [h1] at ht
    simp only [Sum.elim_inl, Option.bind_some, Option.some.injEq, decide_eq_true_eq] at ht
    have hall := runL_in (p := fun i y => okG a i y) a 0 h1
    have hm : ∀ y ∈ a, okM y.2 = true := fun y hy => by
      obtain ⟨i, hi⟩ := List.getElem?_of_mem hy
      have := hall i y hi
      unfold okG at this
      simp only [Bool.and_eq_true] at this
      exact this.2.2
    refine ⟨⟨srt_adj fun i x y hx hy => ?_, fun y hy => ⟨(okM_srt (hm y hy)).1, (okM_srt (hm y hy)).2.2⟩, by omega⟩, fun y hy => (okM_srt (hm y hy)).2.1⟩
    have := hall (i + 1) y hy
    rw [Nat.zero_add] at this
    unfold okG at this
    simp only [Bool.and_eq_true, decide_eq_true (show 0 < i + 1 by omega), cond_true, Nat.add_sub_cancel, List.getD_eq_getElem?_getD, hx, Option.getD_some] at this
    exact up_lt this.2.1
  · rw [h1] at ht
    simp at ht
def joinF (g : List UInt8) (t : List GroupT) (who : List UInt8) : List GroupT := setG t g (insT (memG t g) who)
theorem fold_join (g : List UInt8) : ∀ (ms : List (List UInt8)) (t : List GroupT), 0 < ms.length → ms.foldl (joinF g) t = setG t g (ms.foldl insT (memG t g))
  | [], _, h => by simp at h
  | [m], t, _ => rfl
  | m :: m2 :: ms, t, _ => by
    rw [List.foldl_cons, fold_join g (m2 :: ms) (joinF g t m) (by simp)]
    unfold joinF
    rw [memG_set (insT_pos _ _), setG_set (insT_pos _ _)]; rfl
/-- All texts in it are small. -/
def StrOk (t : List GroupT) : Prop := ∀ y ∈ t, y.1.length ≤ 1048576 ∧ ∀ s ∈ y.2, s.length ≤ 1048576
theorem insT_mem {l : List (List UInt8)} {x s : List UInt8} (h : s ∈ insT l x) : s ∈ l ∨ s = x := by
  unfold insT at h
  rcases List.mem_append.1 h with h | h
  · exact .inl (List.mem_filter.1 h).1
  · rcases List.mem_cons.1 h with h | h
    · exact .inr h
    · exact .inl (List.mem_filter.1 h).1
theorem StrOk.join {t : List GroupT} (h : StrOk t) {g who : List UInt8} (hg : g.length ≤ 1048576) (hw : who.length ≤ 1048576) : StrOk (joinF g t who) := by
  intro y hy
  unfold joinF at hy
  rw [setG_pos (insT_pos _ _)] at hy
  rcases List.mem_append.1 hy with hy | hy
  · exact h y (List.mem_filter.1 hy).1
  · rcases List.mem_cons.1 hy with rfl | hy
    · refine ⟨hg, fun s hs => ?_⟩
      rcases insT_mem hs with hs | rfl
      · unfold memG at hs
        cases hf : t.find? (fun y => y.1 == g) with
        | none => rw [hf] at hs; cases hs
        | some z => rw [hf] at hs; exact (h z (List.mem_of_find?_eq_some hf)).2 s hs
      · exact hw
    · exact h y (List.mem_filter.1 hy).1
theorem TabOk.join {c m : Nat} {t : List GroupT} (h : TabOk c m t) (g who : List UInt8) : TabOk (c + 1) (m + 1) (joinF g t who) := by
  have hm := h.mem g
  exact (h.mono (Nat.le_refl _) (Nat.le_succ _)).set (insT_pos _ _) (insT_srt hm.1 who) (Nat.le_trans (insT_len _ _) (by omega))
theorem fold_ok (g : List UInt8) (hg : g.length ≤ 1048576) : ∀ (ms : List (List UInt8)) {c m : Nat} {t : List GroupT}, (∀ s ∈ ms, s.length ≤ 1048576) → TabOk c m t → StrOk t → TabOk (c + ms.length) (m + ms.length) (ms.foldl (joinF g) t) ∧ StrOk (ms.foldl (joinF g) t)
  | [], c, m, t, _, h1, h2 => ⟨h1, h2⟩
  | x :: ms, c, m, t, hs, h1, h2 => by
    have := fold_ok g hg ms (fun s h => hs s (List.mem_cons_of_mem _ h)) (h1.join g x) (h2.join hg (hs x List.mem_cons_self))
    rw [List.length_cons, show c + (ms.length + 1) = c + 1 + ms.length by omega, show m + (ms.length + 1) = m + 1 + ms.length by omega]
    exact this
theorem l_implM1 {a b f : List GroupT} {d : List UInt8} {e l : List (List UInt8)} {g h : Int} (hd : d.length ≤ 1048576) (hl : l.length ≤ 1000) (hls : ∀ s ∈ l, s.length ≤ 1048576) : ∀ (s : List (List UInt8)) (k n c0 m0 : Nat) (c : List GroupT), l.drop k = s → k + s.length = l.length → s.length < n → TabOk c0 m0 c → StrOk c → c0 + s.length ≤ 100000 → m0 + s.length ≤ 100000 →
    L_impl_Merge_1 n (a, b, c, (d, e), f, g, h, l, (l.length : Int), (k : Int)) = some (.inl (a, b, s.foldl (joinF d) c, f, g, h))
  | [], k, n + 1, c0, m0, c, h1, h2, h3, ht, hs, hc, hm => by
    simp only [List.length_nil, Nat.add_zero] at h2
    rw [e_L_impl_Merge_1]
    simp only [decide_eq_false (show ¬ (k : Int) < (l.length : Int) by omega), cond_false, List.foldl_nil]
  | x :: s, k, n + 1, c0, m0, c, h1, h2, h3, ht, hs, hc, hm => by
    simp only [List.length_cons] at h2 h3 hc hm
    have hx : l[k]? = some x := by
      have := congrArg (fun l => l[0]?) h1
      simpa using this
    have t3 : l.drop (k + 1) = s := by rw [← List.drop_drop, h1]; rfl
    have hj := x_join (t := c) d x (by have := ht.2.2; omega) ht.1 (fun y hy => ⟨(ht.2.1 y hy).1, by have := (ht.2.1 y hy).2; omega⟩)
    have ih := l_implM1 (a := a) (b := b) (f := f) (e := e) (g := g) (h := h) hd hl hls s (k + 1) n (c0 + 1) (m0 + 1) (joinF d c x) t3 (by omega) (by omega) (ht.join d x) (hs.join hd (hls x (List.mem_of_getElem? hx))) (by omega) (by omega)
    rw [show ((k + 1 : Nat) : Int) = (k : Int) + 1 by omega] at ih
    rw [e_L_impl_Merge_1]
    simp only [decide_eq_true (show (k : Int) < (l.length : Int) by omega), cond_true, Int.natCast_nonneg, if_true, Int.toNat_natCast, hx, Option.bind_some, hj, wrap_ok (n := (k : Int) + 1) (by omega) (by omega), List.foldl_cons]
    exact ih
theorem l_specM1 {a b c d : List GroupT} {y : GroupT} {e : Nat} (hy : b[e]? = some y) (hl : y.2.length ≤ 1000) : ∀ (s : List (List UInt8)) (k n : Nat) (f : List (List UInt8)), y.2.drop k = s → k + s.length = y.2.length → s.length < n → f.length + s.length ≤ 100000 →
    L_spec_Merge_1 n (a, b, c, d, (e : Int), f, (k : Int)) = some (.inl (a, b, c, d, (e : Int), s.foldl insT f))
  | [], k, n + 1, f, h1, h2, h3, hf => by
    simp only [List.length_nil, Nat.add_zero] at h2
    rw [e_L_spec_Merge_1]
    simp only [Int.natCast_nonneg, if_true, Int.toNat_natCast, hy, Option.bind_some, decide_eq_false (show ¬ (k : Int) < (y.2.length : Int) by omega), cond_false, List.foldl_nil]
  | x :: s, k, n + 1, f, h1, h2, h3, hf => by
    simp only [List.length_cons] at h2 h3 hf
    have hx : y.2[k]? = some x := by
      have := congrArg (fun l => l[0]?) h1
      simpa using this
    have t3 : y.2.drop (k + 1) = s := by rw [← List.drop_drop, h1]; rfl
    have hlen := insT_len f x
    have ih := l_specM1 (a := a) (c := c) (d := d) hy hl s (k + 1) n (insT f x) t3 (by omega) (by omega) (by omega)
    rw [show ((k + 1 : Nat) : Int) = (k : Int) + 1 by omega] at ih
    rw [e_L_spec_Merge_1]
    simp only [Int.natCast_nonneg, if_true, Int.toNat_natCast, hy, Option.bind_some, decide_eq_true (show (k : Int) < (y.2.length : Int) by omega), cond_true, hx, x_l03Insert x (show f.length ≤ 1048576 by omega), wrap_ok (n := (k : Int) + 1) (by omega) (by omega), List.foldl_cons]
    exact ih
def mergeF (b t : List GroupT) : List GroupT := b.foldl (fun t y => y.2.foldl (joinF y.1) t) t
theorem l_M2 {a b : List GroupT} (ha : T_spec_TableOk a = some true) (hb : T_spec_TableOk b = some true) (hbo : TabOk 6 8 b) (hb0 : ∀ y ∈ b, 0 < y.2.length) (hbs : StrOk b) : ∀ (s : List GroupT) (k n c0 : Nat) (t : List GroupT), b.drop k = s → k + s.length = b.length → s.length < n → TabOk c0 c0 t → StrOk t → c0 + 8 * s.length ≤ 1000 →
    L_spec_Merge_2 n (a, b, [], t, (k : Int)) = some (.inl (a, [], mergeF s t)) ∧ L_impl_Merge_2 n (a, [], t, b, (b.length : Int), (k : Int)) = some (.inl (a, [], mergeF s t)) ∧ TabOk (c0 + 8 * s.length) (c0 + 8 * s.length) (mergeF s t) ∧ StrOk (mergeF s t)
  | [], k, n + 1, c0, t, h1, h2, h3, ht, hs, hc => by
    simp only [List.length_nil, Nat.add_zero] at h2
    refine ⟨?_, ?_, by simpa [mergeF] using ht, hs⟩
    · rw [e_L_spec_Merge_2]
      simp only [decide_eq_false (show ¬ (k : Int) < (b.length : Int) by omega), cond_false, Option.bind_some, Sum.elim_inl, mergeF, List.foldl_nil]
    · rw [e_L_impl_Merge_2]
      simp only [decide_eq_false (show ¬ (k : Int) < (b.length : Int) by omega), cond_false, mergeF, List.foldl_nil]
  | y :: s, k, n + 1, c0, t, h1, h2, h3, ht, hs, hc => by
    simp only [List.length_cons] at h2 h3 hc
    have hbl := hbo.2.2
    have hy : b[k]? = some y := by
      have := congrArg (fun l => l[0]?) h1
      simpa using this
    have hmem := List.mem_of_getElem? hy
    have t3 : b.drop (k + 1) = s := by rw [← List.drop_drop, h1]; rfl
    have hyo := hbo.2.1 y hmem
    have hyl := hyo.2
    have hys := hbs y hmem
    have hfo := fold_ok y.1 hys.1 y.2 hys.2 ht hs
    have hm := ht.mem y.1
    have ih := l_M2 (a := a) ha hb hbo hb0 hbs s (k + 1) n (c0 + 8) (y.2.foldl (joinF y.1) t) t3 (by omega) (by omega) (hfo.1.mono (by omega) (by omega)) hfo.2 (by omega)
    rw [show ((k + 1 : Nat) : Int) = (k : Int) + 1 by omega] at ih
    obtain ⟨i1, i2, i3, i4⟩ := ih
    refine ⟨?_, ?_, ?_, i4⟩
    · have hin := l_specM1 (a := a) (c := ([] : List GroupT)) (d := t) hy (by omega) y.2 0 fuel (memG t y.1) rfl (by omega) (by simp only [fuel]; omega) (by omega)
      rw [show ((0 : Nat) : Int) = 0 from rfl] at hin
      rw [e_L_spec_Merge_2]
      simp only [decide_eq_true (show (k : Int) < (b.length : Int) by omega), cond_true, ha, hb, Option.bind_some, Sum.elim_inl, Int.natCast_nonneg, if_true, Int.toNat_natCast, hy,
        x_memG y.1 (show t.length ≤ 1048576 by have := ht.2.2; omega) (fun z hz => by have := (ht.2.1 z hz).2; omega), hin, x_l17Set y.1 _ (show t.length ≤ 1048576 by have := ht.2.2; omega), wrap_ok (n := (k : Int) + 1) (by omega) (by omega)]
      rw [← fold_join y.1 y.2 t (hb0 y hmem)]
      exact i1
    · have hin := l_implM1 (a := a) (b := ([] : List GroupT)) (f := b) (d := y.1) (e := y.2) (l := y.2) (g := (b.length : Int)) (h := (k : Int)) hys.1 (by omega) hys.2 y.2 0 fuel c0 c0 t rfl (by omega) (by simp only [fuel]; omega) ht hs (by omega) (by omega)
      rw [show ((0 : Nat) : Int) = 0 from rfl] at hin
      rw [e_L_impl_Merge_2]
      simp only [decide_eq_true (show (k : Int) < (b.length : Int) by omega), cond_true, Int.natCast_nonneg, if_true, Int.toNat_natCast, hy, Option.bind_some, hin, Sum.elim_inl, wrap_ok (n := (k : Int) + 1) (by omega) (by omega)]
      exact i2
    · rw [List.length_cons, show c0 + 8 * (s.length + 1) = c0 + 8 + 8 * s.length by omega]; exact i3
theorem x_Merge {a b : List GroupT} (ha : (ET.sl false (.pair .str (.sl false .str))).small a) (hb : (ET.sl false (.pair .str (.sl false .str))).small b) (ha1 : a.length ≤ 1048576) (ha2 : ∀ y ∈ a, y.2.length ≤ 1048576) :
    ∃ r, T_spec_Merge (a, b) = some r ∧ T_impl_Merge (a, b) = some r ∧ (r = a ∨ TabOk 1000 1000 r ∧ StrOk r) := by
  obtain ⟨va, a1, a2⟩ := x_TableOk ha
  obtain ⟨vb, b1, b2⟩ := x_TableOk hb
  have hca := x_copyS ha1 ha2
  have hst : ∀ {t : List GroupT}, (ET.sl false (.pair .str (.sl false .str))).small t → StrOk t := fun h y hy => ⟨(h.2 y hy).1, (h.2 y hy).2.2⟩
  rw [e_T_spec_Merge, e_T_impl_Merge, hca.1, a2]
  have hno : (va && vb) = false → L_spec_Merge_2 fuel (a, b, [], a, 0) = some (.inl (a, [], a)) := fun h => by
    obtain ⟨n, hn⟩ := fuelS1
    rw [hn, e_L_spec_Merge_2, a1, b1]
    cases decide (0 < (b.length : Int)) with
    | false => rfl
    | true =>
      cases va with
      | false => rfl
      | true => rw [Bool.true_and] at h; subst h; rfl
  have hfin : L_spec_Merge_2 fuel (a, b, [], a, 0) = some (.inl (a, [], a)) → ((L_spec_Merge_2 fuel (a, b, [], a, 0)).bind (Sum.elim (fun (y : List GroupT × List GroupT × List GroupT) => (T_spec_TableOk y.snd.2).bind fun (r : Bool) => bif !r then (T_spec_l17Copy y.1).bind fun (r : List GroupT) => some r else (T_spec_l17Copy y.snd.2).bind fun (r : List GroupT) => some r) fun (val : List GroupT) => some val)) = some a := fun h => by
    rw [h]
    simp only [Option.bind_some, Sum.elim_inl, a1, hca.1]
    cases va <;> rfl
  cases va with
  | false =>
    refine ⟨a, ?_, ?_, .inl rfl⟩
    · simp only [Option.bind_some]; exact hfin (hno rfl)
    · simp only [Option.bind_some, Bool.not_false, cond_true, Sum.elim_inl, hca.2]
  | true =>
    cases vb with
    | false =>
      refine ⟨a, ?_, ?_, .inl rfl⟩
      · simp only [Option.bind_some]; exact hfin (hno rfl)
      · simp only [Option.bind_some, Bool.not_true, cond_false, b2, Bool.not_false, Sum.elim_inl, cond_true, hca.2]
    | true =>
      obtain ⟨ta, _⟩ := tb_true ha a2
      obtain ⟨tb, tb0⟩ := tb_true hb b2
      have hbl := tb.2.2
      obtain ⟨m1, m2, m3, m4⟩ := l_M2 a1 b1 tb tb0 (hst hb) b 0 fuel 8 a rfl (by omega) (by simp only [fuel]; omega) (ta.mono (by omega) (by omega)) (hst ha) (by omega)
      rw [show ((0 : Nat) : Int) = 0 from rfl] at m1 m2
      have hmt : TabOk 1000 1000 (mergeF b a) := m3.mono (by omega) (by omega)
      have hms : (ET.sl false (.pair .str (.sl false .str))).small (mergeF b a) := ⟨Nat.le_trans hmt.2.2 (by decide), fun y hy => ⟨(m4 y hy).1, Nat.le_trans (hmt.2.1 y hy).2 (by decide), (m4 y hy).2⟩⟩
      obtain ⟨v, v1, v2⟩ := x_TableOk hms
      have hcm := x_copyS (t := mergeF b a) (Nat.le_trans hmt.2.2 (by decide)) (fun y hy => Nat.le_trans (hmt.2.1 y hy).2 (by decide))
      refine ⟨bif v then mergeF b a else a, ?_, ?_, ?_⟩
      · simp only [Option.bind_some, m1, Sum.elim_inl, v1, hca.1, hcm.1]
        cases v <;> rfl
      · simp only [Option.bind_some, Bool.not_true, cond_false, b2, Sum.elim_inl, hca.2, m2, v2]
        cases v <;> rfl
      · cases v with
        | true => exact .inr ⟨hmt, m4⟩
        | false => exact .inl rfl
end Xs
end Go.Proofs.YtainknkfjekngaaDoor
