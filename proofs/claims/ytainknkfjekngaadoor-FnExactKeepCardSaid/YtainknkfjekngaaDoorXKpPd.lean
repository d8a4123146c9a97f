/- What the reference's function answers, and the program's: the same. -/
import Derived.Test.YtainknkfjekngaaDoorXKpPc
namespace Go.Proofs.YtainknkfjekngaaDoor
open Go Vm
set_option linter.unusedVariables false
set_option linter.unusedSimpArgs false
namespace Xs
/-- A group put into its place. -/
def putG (t : List GroupT) (y : GroupT) : List GroupT := loF Prod.fst y.1 t ++ y :: hiF Prod.fst y.1 t
theorem putG_srt {t : List GroupT} (h : Srt Prod.fst t) (y : GroupT) : Srt Prod.fst (putG t y) := mid_srt h rfl
theorem putG_len (t : List GroupT) (y : GroupT) : (putG t y).length ≤ t.length + 1 := by
  have := lohi_len Prod.fst y.1 t
  unfold putG
  rw [List.length_append, List.length_cons]; omega
theorem l_put {t : List GroupT} {g : List UInt8} {ms : List (List UInt8)} {L R : List GroupT} (ht : t.length ≤ 4194304) (e : t = L ++ R) (h1 : ∀ x ∈ L, Op.bytesLess x.1 g = true) (h2 : ∀ x ∈ R, Op.bytesLess x.1 g = false) :
    ∀ (j i n : Nat), i + j = L.length → j < n → L___impl_Table__put_1 n (t, (g, ms), (i : Int)) = some (.inl (t, (g, ms), (L.length : Int)))
  | 0, i, n + 1, hi, hn => by
    rw [e_L___impl_Table__put_1]
    have hlen : t.length = L.length + R.length := by rw [e, List.length_append]
    cases R with
    | nil =>
      simp only [decide_eq_false (show ¬ (i : Int) < (t.length : Int) by rw [hlen, List.length_nil]; omega), cond_false, Option.bind_some, Sum.elim_inl]
      rw [show i = L.length by omega]
    | cons y R =>
      have hy : t[i]? = some y := by rw [show i = L.length by omega, e]; simp
      simp only [decide_eq_true (show (i : Int) < (t.length : Int) by rw [hlen, List.length_cons]; omega), cond_true, Int.natCast_nonneg, if_true, Int.toNat_natCast, if_pos (show i < t.length by rw [hlen, List.length_cons]; omega), hy, Option.bind_some, Sum.elim_inl, h2 y List.mem_cons_self, cond_false]
      rw [show i = L.length by omega]
  | j + 1, i, n + 1, hi, hn => by
    have hlen : t.length = L.length + R.length := by rw [e, List.length_append]
    have hlt : i < L.length := by omega
    have hy : t[i]? = some L[i] := by rw [e, List.getElem?_append_left hlt, List.getElem?_eq_getElem hlt]
    have ih := l_put (ms := ms) ht e h1 h2 j (i + 1) n (by omega) (by omega)
    rw [show ((i + 1 : Nat) : Int) = (i : Int) + 1 by omega] at ih
    rw [e_L___impl_Table__put_1]
    simp only [decide_eq_true (show (i : Int) < (t.length : Int) by omega), cond_true, Int.natCast_nonneg, if_true, Int.toNat_natCast, if_pos (show i < t.length by omega), hy, Option.bind_some, Sum.elim_inl, h1 _ (List.getElem_mem hlt), wrap_ok (n := (i : Int) + 1) (by omega) (by omega), ih]
theorem x_put {t : List GroupT} (g : List UInt8) (ms : List (List UInt8)) (ht : t.length ≤ 4194304) (hs : Srt Prod.fst t) : T___impl_Table__put (t, g, ms) = some (putG t (g, ms)) := by
  obtain ⟨L, R, e, h1, h2, h3⟩ := srt_split g hs
  have hlen : t.length = L.length + R.length := by rw [e, List.length_append]
  have hloop := l_put (ms := ms) ht e h1 h2 L.length 0 fuel (by omega) (by simp only [fuel]; omega)
  rw [show ((0 : Nat) : Int) = 0 from rfl] at hloop
  have hlo : loF Prod.fst g t = L := by rw [e]; exact lo_of h1 h2
  have hins : T_slices_Insert___impl_Group_impl_Group_ (t, (L.length : Int), [(g, ms)]) = some (L ++ (g, ms) :: R) := by
    rw [e_T_slices_Insert___impl_Group_impl_Group_, if_pos ⟨by omega, by omega, by simp, by simp; omega, by simp; omega⟩]
    rw [Int.toNat_natCast, e, List.take_left, List.drop_left, List.append_assoc]; rfl
  rw [e_T___impl_Table__put, hloop]
  simp only [Option.bind_some, Sum.elim_inl]
  unfold putG
  rw [hlo]
  cases R with
  | nil =>
    have hh : hiF Prod.fst g t = [] := by rw [e]; exact hi_of h1 (by simp)
    simp only [decide_eq_false (show ¬ (L.length : Int) < (t.length : Int) by rw [hlen, List.length_nil]; omega), cond_false, Option.bind_some, Sum.elim_inl, hins, hh]
  | cons y R' =>
    have hy : t[L.length]? = some y := by rw [e]; simp
    have hlt : L.length < t.length := by rw [hlen, List.length_cons]; omega
    simp only [decide_eq_true (show (L.length : Int) < (t.length : Int) by omega), cond_true, Int.natCast_nonneg, if_true, Int.toNat_natCast, if_pos hlt, hy, Option.bind_some, Sum.elim_inl]
    by_cases hg : y.1 = g
    · have hh : hiF Prod.fst g t = R' := by rw [e]; exact hi_of' h1 hg (fun x hx => by exact h3 _ _ rfl x hx)
      rw [show (y.1 == g) = true from beq_iff_eq.2 hg, hh]
      simp only [cond_true]
      rw [e, List.set_append_right _ _ (Nat.le_refl _), Nat.sub_self]; rfl
    · have hR : ∀ x ∈ y :: R', Op.bytesLess g x.1 = true := fun x hx => by
        rcases List.mem_cons.1 hx with rfl | hx
        · exact bl_tri (h2 _ List.mem_cons_self) hg
        · exact h3 _ _ rfl x hx
      have hh : hiF Prod.fst g t = y :: R' := by rw [e]; exact hi_of h1 hR
      rw [show (y.1 == g) = false from beq_eq_false_iff_ne.2 hg, hh]
      simp only [cond_false, hins, Option.bind_some]
/-- A loop that takes the elements of a list of groups one by one. -/
theorem take_loop {A σ τ β : Type} {L : Nat → σ → Option (τ ⊕ β)} (a : List GroupT) (st : A → List (List UInt8 × Option (List (List UInt8))) → Int → σ) (fin : A → τ) (f : A → GroupT → A) (I : Nat → A → Prop) (acc0 : A) (h0 : I 0 acc0) (hlen : a.length ≤ 4194304)
    (hI : ∀ i acc y, y ∈ a → i < a.length → I i acc → I (i + 1) (f acc y))
    (hstep : ∀ n acc (c : List (List UInt8 × Option (List (List UInt8)))) (i : Nat) y, c.length = a.length → i < a.length → y ∈ a → c[i]? = some (y.1, some y.2) → I i acc → L (n + 1) (st acc c (i : Int)) = L n (st (f acc y) (c.set i (y.1, none)) ((i : Int) + 1)))
    (hend : ∀ n acc (c : List (List UInt8 × Option (List (List UInt8)))), c.length = a.length → L (n + 1) (st acc c (a.length : Int)) = some (.inl (fin acc))) :
    L fuel (st acc0 (a.map (wd (ET.str.pair (ET.sl true ET.str)))) 0) = some (.inl (fin (a.foldl f acc0))) ∧ I a.length (a.foldl f acc0) := by
  suffices h : ∀ (s : List GroupT) (i n : Nat) (acc : A) (c : List (List UInt8 × Option (List (List UInt8)))), a.drop i = s → i + s.length = a.length → c.length = a.length → (∀ k, i ≤ k → c[k]? = (a[k]?).map fun y => (y.1, some y.2)) → I i acc → s.length < n →
      L n (st acc c (i : Int)) = some (.inl (fin (s.foldl f acc))) ∧ I a.length (s.foldl f acc) by
    exact h a 0 fuel acc0 _ rfl (by omega) (List.length_map ..) (fun k _ => List.getElem?_map ..) h0 (by simp only [fuel]; omega)
  intro s
  induction s with
  | nil =>
    intro i n acc c h1 h2 h3 h4 h5 h6
    obtain ⟨n, rfl⟩ : ∃ m, n = m + 1 := ⟨n - 1, by simp at h6; omega⟩
    simp only [List.length_nil, Nat.add_zero] at h2
    rw [h2] at h5 ⊢
    exact ⟨hend n acc c h3, h5⟩
  | cons y s ih =>
    intro i n acc c h1 h2 h3 h4 h5 h6
    simp only [List.length_cons] at h2 h6
    obtain ⟨n, rfl⟩ : ∃ m, n = m + 1 := ⟨n - 1, by omega⟩
    have hx : a[i]? = some y := by
      have := congrArg (fun l => l[0]?) h1
      simpa using this
    have hy := List.mem_of_getElem? hx
    have t3 : a.drop (i + 1) = s := by rw [← List.drop_drop, h1]; rfl
    have hc : c[i]? = some (y.1, some y.2) := by rw [h4 i (Nat.le_refl _), hx]; rfl
    rw [hstep n acc c i y h3 (by omega) hy hc h5]
    have := ih (i + 1) n (f acc y) (c.set i (y.1, none)) t3 (by omega) (by rw [List.length_set]; exact h3) (fun k hk => by rw [List.getElem?_set_ne (by omega)]; exact h4 k (by omega)) (hI i acc y hy (by omega) h5) (by omega)
    rw [show ((i + 1 : Nat) : Int) = (i : Int) + 1 by omega] at this
    exact this
/-- A loop that looks for the first that a test tells. -/
theorem idx_loop {α σ τ : Type} {L : Nat → σ → Option (τ ⊕ Int)} (a : List α) (q : α → Bool) (st : Int → σ) (u : τ) (hlen : a.length ≤ 4194304)
    (hstep : ∀ n (i : Nat) x, a[i]? = some x → i < a.length → L (n + 1) (st (i : Int)) = bif q x then some (.inr (i : Int)) else L n (st ((i : Int) + 1)))
    (hend : ∀ n, L (n + 1) (st (a.length : Int)) = some (.inl u)) :
    (∃ L0 x R, a = L0 ++ x :: R ∧ (∀ y ∈ L0, q y = false) ∧ q x = true ∧ L fuel (st 0) = some (.inr (L0.length : Int))) ∨ ((∀ y ∈ a, q y = false) ∧ L fuel (st 0) = some (.inl u)) := by
  suffices h : ∀ (s : List α) (i n : Nat), a.drop i = s → i + s.length = a.length → s.length < n →
      (∃ L0 x R, s = L0 ++ x :: R ∧ (∀ y ∈ L0, q y = false) ∧ q x = true ∧ L n (st (i : Int)) = some (.inr ((i + L0.length : Nat) : Int))) ∨ ((∀ y ∈ s, q y = false) ∧ L n (st (i : Int)) = some (.inl u)) by
    rcases h a 0 fuel rfl (by omega) (by simp only [fuel]; omega) with ⟨L0, x, R, h1, h2, h3, h4⟩ | ⟨h1, h2⟩
    · exact .inl ⟨L0, x, R, h1, h2, h3, by rw [Nat.zero_add] at h4; exact h4⟩
    · exact .inr ⟨h1, h2⟩
  intro s
  induction s with
  | nil =>
    intro i n h1 h2 h6
    obtain ⟨n, rfl⟩ : ∃ m, n = m + 1 := ⟨n - 1, by simp at h6; omega⟩
    simp only [List.length_nil, Nat.add_zero] at h2
    exact .inr ⟨by simp, by rw [h2]; exact hend n⟩
  | cons y s ih =>
    intro i n h1 h2 h6
    simp only [List.length_cons] at h2 h6
    obtain ⟨n, rfl⟩ : ∃ m, n = m + 1 := ⟨n - 1, by omega⟩
    have hx : a[i]? = some y := by
      have := congrArg (fun l => l[0]?) h1
      simpa using this
    have t3 : a.drop (i + 1) = s := by rw [← List.drop_drop, h1]; rfl
    rw [hstep n i y hx (by omega)]
    cases hq : q y with
    | true => exact .inl ⟨[], y, s, rfl, by simp, hq, rfl⟩
    | false =>
      have := ih (i + 1) n t3 (by omega) (by omega)
      rw [show ((i + 1 : Nat) : Int) = (i : Int) + 1 by omega] at this
      rcases this with ⟨L0, x, R, g1, g2, g3, g4⟩ | ⟨g1, g2⟩
      · exact .inl ⟨y :: L0, x, R, by rw [g1]; rfl, fun z hz => (List.mem_cons.1 hz).elim (fun e => e ▸ hq) (g2 z), g3, by rw [cond_false, g4, List.length_cons, show i + 1 + L0.length = i + (L0.length + 1) by omega]⟩
      · exact .inr ⟨fun z hz => (List.mem_cons.1 hz).elim (fun e => e ▸ hq) (g1 z), by rw [cond_false]; exact g2⟩
/-- A loop that moves those that stay to the front. -/
theorem del_loop {α σ τ β : Type} {L : Nat → σ → Option (τ ⊕ β)} (a0 : List α) (q : α → Bool) (st : List α → Int → Int → σ) (fin : List α → Int → τ)
    (hstep : ∀ n (a : List α) (i j : Nat) x, a.length = a0.length → a[j]? = some x → x ∈ a0 → i < j → j < a.length → L (n + 1) (st a (i : Int) (j : Int)) = bif q x then L n (st a (i : Int) ((j : Int) + 1)) else L n (st (a.set i x) ((i : Int) + 1) ((j : Int) + 1)))
    (hend : ∀ n (a : List α) (i : Nat), a.length = a0.length → L (n + 1) (st a (i : Int) (a.length : Int)) = some (.inl (fin a (i : Int)))) :
    ∀ (s : List α) (j i n : Nat) (a : List α), a.drop j = s → j + s.length = a.length → a.length = a0.length → i < j → (∀ x ∈ s, x ∈ a0) → s.length < n →
      ∃ (a' : List α) (k : Nat), L n (st a (i : Int) (j : Int)) = some (.inl (fin a' (k : Int))) ∧ a'.length = a0.length ∧ k < a'.length + 1 ∧ k + (a.length - j) ≤ i + s.length + (a.length - j) ∧ a'.take k = a.take i ++ s.filter (fun x => !q x) ∧ k = i + (s.filter (fun x => !q x)).length
  | [], j, i, n + 1, a, h1, h2, h3, h4, h5, h6 => by
    simp only [List.length_nil, Nat.add_zero] at h2
    refine ⟨a, i, by rw [h2]; exact hend n a i h3, h3, by omega, by simp, by simp, by simp⟩
  | y :: s, j, i, n + 1, a, h1, h2, h3, h4, h5, h6 => by
    simp only [List.length_cons] at h2 h6
    have hx : a[j]? = some y := by
      have := congrArg (fun l => l[0]?) h1
      simpa using this
    have t3 : a.drop (j + 1) = s := by rw [← List.drop_drop, h1]; rfl
    rw [hstep n a i j y h3 hx (h5 y List.mem_cons_self) h4 (by omega)]
    cases hq : q y with
    | true =>
      obtain ⟨a', k, g1, g2, g3, _, g5, g6⟩ := del_loop a0 q st fin hstep hend s (j + 1) i n a t3 (by omega) h3 (by omega) (fun x hx => h5 x (List.mem_cons_of_mem _ hx)) (by omega)
      rw [show ((j + 1 : Nat) : Int) = (j : Int) + 1 by omega] at g1
      have hl := List.length_filter_le (fun x => !q x) s
      refine ⟨a', k, by rw [cond_true]; exact g1, g2, g3, by simp only [List.length_cons]; omega, by rw [g5, List.filter_cons, hq]; rfl, by rw [g6, List.filter_cons, hq]; rfl⟩
    | false =>
      have hl2 : (a.set i y).length = a.length := List.length_set
      obtain ⟨a', k, g1, g2, g3, _, g5, g6⟩ := del_loop a0 q st fin hstep hend s (j + 1) (i + 1) n (a.set i y) (by rw [List.drop_set_of_lt (by omega)]; exact t3) (by omega) (by omega) (by omega) (fun x hx => h5 x (List.mem_cons_of_mem _ hx)) (by omega)
      rw [show ((j + 1 : Nat) : Int) = (j : Int) + 1 by omega, show ((i + 1 : Nat) : Int) = (i : Int) + 1 by omega] at g1
      have hl := List.length_filter_le (fun x => !q x) s
      have htk : (a.set i y).take (i + 1) = a.take i ++ [y] := by
        rw [List.take_add_one, List.take_set_of_le (Nat.le_refl _), List.getElem?_set_self (by omega)]; rfl
      have hf : (y :: s).filter (fun x => !q x) = y :: s.filter (fun x => !q x) := by rw [List.filter_cons, hq]; rfl
      refine ⟨a', k, by rw [cond_false]; exact g1, g2, g3, by simp only [List.length_cons]; omega, by rw [g5, htk, hf, List.append_assoc]; rfl, by rw [g6, hf, List.length_cons]; omega⟩
/-- Those that are in a list of numbers. -/
theorem x_l05In {ds : List Int} (d : Int) (hl : ds.length ≤ 1048576) : T_spec_l05In (ds, d) = some (ds.any fun y => y == d) := by
  suffices h : ∀ (s : List Int) (i n : Nat), ds.drop i = s → i + s.length = ds.length → s.length < n → L_spec_l05In_1 n (ds, d, (i : Int)) = bif s.any (fun y => y == d) then some (.inr true) else some (.inl ()) by
    have := h ds 0 fuel rfl (by omega) (by simp only [fuel]; omega)
    rw [show ((0 : Nat) : Int) = 0 from rfl] at this
    rw [e_T_spec_l05In, this]
    cases ds.any (fun y => y == d) <;> rfl
  intro s
  induction s with
  | nil =>
    intro i n h1 h2 h6
    obtain ⟨n, rfl⟩ : ∃ m, n = m + 1 := ⟨n - 1, by simp at h6; omega⟩
    simp only [List.length_nil, Nat.add_zero] at h2
    rw [e_L_spec_l05In_1]
    simp only [decide_eq_false (show ¬ (i : Int) < (ds.length : Int) by omega), cond_false, List.any_nil]
  | cons y s ih =>
    intro i n h1 h2 h6
    simp only [List.length_cons] at h2 h6
    obtain ⟨n, rfl⟩ : ∃ m, n = m + 1 := ⟨n - 1, by omega⟩
    have hx : ds[i]? = some y := by
      have := congrArg (fun l => l[0]?) h1
      simpa using this
    have t3 : ds.drop (i + 1) = s := by rw [← List.drop_drop, h1]; rfl
    have := ih (i + 1) n t3 (by omega) (by omega)
    rw [show ((i + 1 : Nat) : Int) = (i : Int) + 1 by omega] at this
    rw [e_L_spec_l05In_1]
    simp only [decide_eq_true (show (i : Int) < (ds.length : Int) by omega), cond_true, Int.natCast_nonneg, if_true, Int.toNat_natCast, hx, Option.bind_some, List.any_cons, wrap_ok (n := (i : Int) + 1) (by omega) (by omega), this]
    cases y == d <;> rfl
theorem x_ContI {ds : List Int} (d : Int) (hl : ds.length ≤ 1048576) : T_slices_Contains___int_int_ (ds, d) = some (ds.any fun y => y == d) := by
  have h := idx_loop (L := L_slices_Index___int_int__1) ds (fun y => y == d) (fun i => (ds, d, (ds.length : Int), i)) () (by omega) (fun n i x hx hi => by
    rw [e_L_slices_Index___int_int__1]
    simp only [decide_eq_true (show (i : Int) < (ds.length : Int) by omega), cond_true, Int.natCast_nonneg, if_true, Int.toNat_natCast, hx, Option.bind_some, wrap_ok (n := (i : Int) + 1) (by omega) (by omega)]
    rw [show (d == x) = (x == d) from by rw [Bool.eq_iff_iff, beq_iff_eq, beq_iff_eq]; exact ⟨Eq.symm, Eq.symm⟩])
    (fun n => by rw [e_L_slices_Index___int_int__1]; simp only [decide_eq_false (show ¬ (ds.length : Int) < (ds.length : Int) by omega), cond_false])
  rw [e_T_slices_Contains___int_int_, e_T_slices_Index___int_int_]
  rcases h with ⟨L0, x, R, h1, h2, h3, h4⟩ | ⟨h1, h2⟩
  · rw [h4]
    simp only [Option.bind_some, Sum.elim_inr, decide_eq_true (Int.natCast_nonneg L0.length)]
    rw [show (ds.any fun y => y == d) = true from List.any_eq_true.2 ⟨x, by rw [h1]; simp, h3⟩]
  · rw [h2]
    simp only [Option.bind_some, Sum.elim_inl]
    rw [show (ds.any fun y => y == d) = false from List.any_eq_false.2 (fun y hy => by rw [h1 y hy]; decide)]; rfl
end Xs
end Go.Proofs.YtainknkfjekngaaDoor
