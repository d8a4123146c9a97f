/- append. -/
import Derived.Test.YtainknkfjekngaaDoorVm7
import Derived.Laws.AppendOwn
namespace Go.Proofs.YtainknkfjekngaaDoor.Vm
open Go
set_option linter.unusedVariables false
set_option linter.unusedSimpArgs false

theorem flat_get {α : Type} {n : Nat} : ∀ (uss : List (List α)), (∀ u ∈ uss, u.length = n) → ∀ i k, k < n → uss.flatten[i * n + k]? = uss[i]?.bind (·[k]?)
  | [], _, i, k, hk => by simp
  | u :: us, h, 0, k, hk => by
    have := h u (by simp)
    simp [List.getElem?_append_left (show k < u.length by omega)]
  | u :: us, h, i + 1, k, hk => by
    have h0 := h u (by simp)
    rw [List.flatten_cons, List.getElem?_append_right (by rw [Nat.add_mul]; omega), show (i + 1) * n + k - u.length = i * n + k by rw [Nat.add_mul]; omega]
    rw [flat_get us (fun u hu => h u (by simp [hu])) i k hk]
    simp
theorem flat_len {α : Type} {n : Nat} : ∀ (uss : List (List α)), (∀ u ∈ uss, u.length = n) → uss.flatten.length = uss.length * n
  | [], _ => by simp
  | u :: us, h => by
    rw [List.flatten_cons, List.length_append, flat_len us (fun u hu => h u (by simp [hu])), h u (by simp), List.length_cons, Nat.add_mul]; omega

theorem rll_lens {w : World} {S : CS} {A : AlSem} {n : Nat} : ∀ {es : List (List V)} {uss : List (List Value)} {F : CS}, RLL w S A es uss F → (∀ e ∈ es, e.length = n) → ∀ u ∈ uss, u.length = n
  | [], _, _, h, _, u, hu => by simp [RLL] at h; subst h; simp at hu
  | e :: es, _, F, h, hl, u, hu => by
    obtain ⟨us, ur, F1, F2, rfl, l1, l2, d, hv, hr⟩ := h
    rcases List.mem_cons.1 hu with rfl | hu
    · rw [RL.length hv]; exact hl e (by simp)
    · exact rll_lens hr (fun e he => hl e (by simp [he])) u hu

theorem rll_ones {w : World} {S : CS} {A : AlSem} : ∀ {es : List (List V)} {uss : List (List Value)} {F : CS}, RLL w S A es uss F → (∀ e ∈ es, e.all (·.leafOk) = true) → ∀ u ∈ uss.flatten, u.oneCell' = true
  | [], _, _, h, _, u, hu => by simp [RLL] at h; subst h; simp at hu
  | e :: es, _, F, h, hl, u, hu => by
    obtain ⟨us, ur, F1, F2, rfl, l1, l2, d, hv, hr⟩ := h
    rw [List.flatten_cons, List.mem_append] at hu
    rcases hu with hu | hu
    · exact leaves_one hv (hl e (by simp)) u hu
    · exact rll_ones hr (fun e he => hl e (by simp [he])) u hu

/-- The cells of a source. -/
def Src (w : World) (n : Nat) (x : Value) (es : List (List V)) (uss : List (List Value)) : Prop :=
  (∃ a c, x = .slice a 0 c ∧ es = []) ∨ ∃ b o c, x = .slice (some ⟨b, o, none⟩) es.length c ∧ ∀ i k, i < es.length → k < n → w.cell? ⟨b, o + (i * n + k), none⟩ = uss[i]?.bind (·[k]?)

theorem cells_flat {w : World} {b o n m : Nat} {uss : List (List Value)} (hl : ∀ u ∈ uss, u.length = n) (hm : uss.length = m) (hc : ∀ i k, i < m → k < n → w.cell? ⟨b, o + (i * n + k), none⟩ = uss[i]?.bind (·[k]?)) :
    ∀ j v, uss.flatten[j]? = some v → w.cell? ((⟨b, o, none⟩ : Addr).add j) = some v := by
  intro j v hj
  have hlt := (List.getElem?_eq_some_iff.1 hj).1
  rw [flat_len uss hl, hm] at hlt
  rcases Nat.eq_zero_or_pos n with rfl | hn
  · simp at hlt
  · have hk := Nat.mod_lt j hn
    have hi : j / n < m := (Nat.div_lt_iff_lt_mul hn).2 hlt
    have hjn : j / n * n + j % n = j := by rw [Nat.mul_comm]; exact Nat.div_add_mod j n
    have := hc (j / n) (j % n) hi hk
    rw [hjn] at this
    rw [addr_add, this, ← flat_get uss hl (j / n) (j % n) hk, hjn, hj]

theorem pres_alloc' (w w1 : World) (h : w1.heap = w.heap) (h1 : w1.os = w.os) (h2 : w1.output = w.output) (o : Obj) : Pres CS.none w (w1.alloc o) :=
  ⟨h1, h2, by show w.heap.size ≤ (w1.heap.push o).size; rw [h]; simp, fun b o' hb => ⟨o', by
    rw [← hb]; show (w1.heap.push o)[b]? = _; rw [h, Array.getElem?_push_lt (heap_lt hb), Array.getElem?_eq_getElem (heap_lt hb)], .refl _ _⟩⟩

section
variable {P : Program}

/-- A new row that holds all. -/
theorem grown_row {w : World} {S : CS} {A : AlSem} {n : Nat} {es : List (List V)} {uss : List (List Value)} {F : CS} {c : Array Value} {t : TypeId} {cap : Nat} {w1 : World} (hw1 : w1.heap = w.heap) (hS : ∀ b x, S b x → b < w.heap.size) (hF : ∀ b x, F b x → b < w.heap.size)
    (h : RLL w S A es uss F) (hl : ∀ e ∈ es, e.length = n) (hcap : es.length ≤ cap ∧ cap ≤ 9223372036854775807) (hsz : c.size = cap * n) (hc : c.toList.take (es.length * n) = uss.flatten) (h1 : w1.os = w.os) (h2 : w1.output = w.output) :
    RV (w1.alloc (.cells c t)) S A (.sl true n es) (.slice (some ⟨w.heap.size, 0, none⟩) es.length cap) ((CS.row w.heap.size 0 (cap * n)).un F) := by
  have hp := pres_alloc' w w1 hw1 h1 h2 (.cells c t)
  have hul := RLL.length h
  have hlens := rll_lens h hl
  have hnew : ∀ x, (w1.alloc (.cells c t)).cell? ⟨w.heap.size, x, none⟩ = c[x]? := fun x => by rw [← hw1]; exact cell_new w1 c t x
  have hfz : ∀ x, (w1.alloc (.cells c t)).frozen? ⟨w.heap.size, x, none⟩ = false := fun x => by rw [← hw1]; exact frozen_new w1 c t x
  refine ⟨_, cap, rfl, hcap, .inr (.inr ⟨w.heap.size, 0, uss, rfl, hl, fun i k hi hk => ?_, fun _ x hx => ⟨.inl ⟨rfl, by omega, by omega⟩, ?_, ?_⟩, (by intro h; cases h), ?_⟩)⟩
  · have hx : i * n + k < es.length * n := by
      have := Nat.mul_le_mul_right n (show i + 1 ≤ es.length from hi)
      rw [Nat.add_mul] at this; omega
    rw [Nat.zero_add, hnew, ← flat_get uss hlens i k hk, ← hc, List.getElem?_take, if_pos hx]; simp
  · rw [Nat.zero_add, hnew, Array.getElem?_eq_getElem (by omega)]; rfl
  · rw [← hw1]; exact plb_new w1 c t
  · simp only [if_true]
    refine RLL.frame (CS.le.refl _) (fun _ _ h => h) (hp.agree hS (CS.none_dj _).symm) _ _ F _ ?_ (hp.agree hF (CS.none_dj _).symm) h
    intro b x hx
    exact ⟨.inr hx, fun hh => by obtain ⟨rfl, _, _⟩ := hh; exact absurd (hF _ _ hx) (Nat.lt_irrefl _)⟩

theorem append_spec {w : World} {S : CS} {A : AlSem} {T ty e n : Nat} {i : TypeInfo} {z : Value} (ht : P.underlying T = some (.slice e)) (hi : P.info? e = some i) (hz : i.zero = some z) (hn : i.size = n) (hzs : z.cells.size = n) (hn0 : 0 < n)
    {es es2 : List (List V)} {u x : Value} {F G : CS} {uss2 : List (List Value)} (h : RV w S A (.sl true n es) u F) (hs : Src w n x es2 uss2) (h2 : RLL w S A es2 uss2 G) (hl2 : ∀ e ∈ es2, e.length = n) (hone : ∀ e ∈ es2, e.all (·.leafOk) = true)
    (hFG : F.dj G) (hFS : F.dj S) (hS : ∀ b x, S b x → b < w.heap.size) (hF : ∀ b x, F b x → b < w.heap.size) (hG : ∀ b x, G b x → b < w.heap.size) (hmx : es.length + es2.length ≤ 9223372036854775807) (hby : (es.length + es2.length) * i.bytes ≤ 140737488355328) :
    ∃ v' w' F', (Builtin.append_ #[T, T] ty #[u, x]).run P w = .ok v' w' ∧ Pres F w w' ∧ RV w' S A (.sl true n (es ++ es2)) v' F' ∧ (∀ b x, F' b x → (F b x ∨ G b x ∨ fresh w b x) ∧ b < w'.heap.size) := by
  have hlen2 := RLL.length h2
  have hul2 := rll_lens h2 hl2
  have hones := rll_ones h2 hone
  obtain ⟨a, cap, rfl, hcap, h⟩ := h
  by_cases hm : es2.length = 0
  · -- nothing comes
    have he2 : es2 = [] := List.eq_nil_of_length_eq_zero hm
    subst he2
    have hu2 : uss2 = [] := by simpa [RLL] using h2
    subst hu2
    have hx : ∃ a' c', x = .slice a' 0 c' := by
      rcases hs with ⟨a', c', rfl, _⟩ | ⟨b, o, c', rfl, _⟩
      · exact ⟨a', c', rfl⟩
      · exact ⟨_, c', rfl⟩
    obtain ⟨a', c', rfl⟩ := hx
    refine ⟨.slice a es.length cap, w, F, ?_, Pres.refl _ _, ?_, fun b x hx => ⟨.inl hx, hF b x hx⟩⟩
    · have hf : (Builtin.firstCells i.size 0 (.slice a' 0 c')).run P w = .ok #[] w := by
        cases a' <;> simp [Builtin.firstCells, loadCells, loadCellsFrom]
      cases a with
      | none => simp [Builtin.append_, run_underlying ht, sizeOf, typeInfo, hi, Builtin.lenOf, hcap, hf]
      | some ad => simp [Builtin.append_, run_underlying ht, sizeOf, typeInfo, hi, Builtin.lenOf, hcap, hf, storeCells]
    · rw [List.append_nil]; exact ⟨a, cap, rfl, hcap, h⟩
  · obtain ⟨b2, o2, c2, rfl, hc2⟩ : ∃ b o c, x = .slice (some ⟨b, o, none⟩) es2.length c ∧ ∀ i k, i < es2.length → k < n → w.cell? ⟨b, o + (i * n + k), none⟩ = uss2[i]?.bind (·[k]?) := by
      rcases hs with ⟨a', c', rfl, rfl⟩ | h
      · simp at hm
      · exact h
    have hnews := cells_flat hul2 hlen2 hc2
    have hnl : uss2.flatten.length = es2.length * n := by rw [flat_len _ hul2, hlen2]
    rcases h with ⟨_, h⟩ | ⟨rfl, rfl, rfl⟩ | ⟨b, o, uss, rfl, hl, hc, hO, hN, hr⟩
    · cases h
    · have hrun := run_append_nil (P := P) w T ty e i z ht hi hz ⟨b2, o2, none⟩ es2.length c2 uss2.flatten (by rw [hn]; exact hnl) hnews (by omega) (by simp at hmx; omega) (by simp at hby; omega)
      have hge := grownCap_ge w es2.length 0 e
      have hgm : grownCap w es2.length 0 e ≤ 9223372036854775807 := grownCap_le_maxLen w es2.length 0 e (by simp only [Go.maxLen]; simp at hmx; omega)
      have hp := pres_alloc' w w.drew rfl rfl rfl (.cells (uss2.flatten.toArray ++ Builtin.zeroCells z.cells (grownCap w es2.length 0 e - es2.length)) e)
      refine ⟨_, _, (CS.row w.heap.size 0 (grownCap w es2.length 0 e * n)).un G, hrun, hp.mono (fun _ _ _ h => h.elim), ?_, ?_⟩
      · simp only [List.nil_append]
        refine grown_row (w1 := w.drew) rfl hS hG h2 hl2 ⟨hge, hgm⟩ ?_ ?_ rfl rfl
        · simp only [Array.size_append, List.size_toArray, size_zeroCells, hzs, hnl, ← Nat.add_mul]; congr 1; omega
        · simp only [Array.toList_append]; rw [← hnl]; exact List.take_left
      · intro b x hx
        rcases hx with ⟨rfl, _, _⟩ | hx
        · exact ⟨.inr (.inr (Nat.le_refl _)), by rw [size_alloc']; exact Nat.lt_succ_self _⟩
        · exact ⟨.inr (.inl hx), Nat.lt_of_lt_of_le (hG b x hx) hp.size⟩
    · simp only [if_true] at hr
      have hlen := RLL.length hr
      have hul := rll_lens hr hl
      have hol := cells_flat hul hlen hc
      have hfl : uss.flatten.length = es.length * n := by rw [flat_len _ hul, hlen]
      have hll : ∀ e ∈ es ++ es2, e.length = n := fun e he => (List.mem_append.1 he).elim (hl e) (hl2 e)
      by_cases hroom : es.length + es2.length ≤ cap
      · -- there is room
        have hfit : es.length * n + es2.length * n ≤ cap * n := by rw [← Nat.add_mul]; exact Nat.mul_le_mul_right n hroom
        have hcs : ∀ j, j < uss2.flatten.length → (w.cell? ⟨b, o + es.length * n + j, none⟩).isSome = true ∧ w.frozen? ⟨b, o + es.length * n + j, none⟩ = false := fun j hj => by
          have := (hO rfl (es.length * n + j) (by omega)).2
          rw [← Nat.add_assoc] at this; exact ⟨this.1, this.2.frz _⟩
        have hst := run_storeCells_cells (P := P) b (o + es.length * n) uss2.flatten 0 w (by simpa using fun j hj => (hcs j (by simpa using hj)).1) (by simpa using fun j hj => (hcs j (by simpa using hj)).2) hones
        simp only [Nat.add_zero] at hst
        have hf := run_firstCells_some (P := P) w i.size es2.length ⟨b2, o2, none⟩ es2.length c2 uss2.flatten (by rw [hn]; exact hnl) hnews
        rw [hn] at hf
        have hrun : (Builtin.append_ #[T, T] ty #[.slice (some ⟨b, o, none⟩) es.length cap, .slice (some ⟨b2, o2, none⟩) es2.length c2]).run P w = .ok (.slice (some ⟨b, o, none⟩) (es.length + es2.length) cap) (w.setCells b (o + es.length * n) uss2.flatten) := by
          simp [Builtin.append_, run_underlying ht, sizeOf, typeInfo, hi, Builtin.lenOf, hroom, hf, addr_add, hn, hst]
        have hp := pres_setCells b uss2.flatten (o + es.length * n) w
        have hrow : ∀ y, (CS.row b (o + es.length * n) uss2.flatten.length) b y → F b y := fun y ⟨_, h1, h2⟩ => by
          have := (hO rfl (y - o) (by omega)).1
          rwa [show o + (y - o) = y by omega] at this
        have hpF : Pres F w (w.setCells b (o + es.length * n) uss2.flatten) := hp.mono (fun b' y _ h => by obtain ⟨rfl, h1, h2⟩ := h; exact hrow y ⟨rfl, h1, h2⟩)
        refine ⟨_, _, F.un G, hrun, hpF, ?_, fun b' x' hx => ⟨hx.elim .inl (fun h => .inr (.inl h)), Nat.lt_of_lt_of_le (hx.elim (hF b' x') (hG b' x')) hp.size⟩⟩
        have hagS : Agree w (w.setCells b (o + es.length * n) uss2.flatten) S := hpF.agree hS (hFS.symm)
        refine ⟨_, cap, by rw [List.length_append], by rw [List.length_append]; exact ⟨hroom, hcap.2⟩, .inr (.inr ⟨b, o, uss ++ uss2, rfl, hll, fun i' k hi' hk => ?_, fun _ x hx => ?_, (by intro h; cases h), ?_⟩)⟩
        · rw [List.length_append] at hi'
          by_cases hlt : i' < es.length
          · have hx : i' * n + k < es.length * n := by
              have := Nat.mul_le_mul_right n (show i' + 1 ≤ es.length from hlt)
              rw [Nat.add_mul] at this; omega
            rw [World.cell?_setCells_out b _ _ w _ (fun _ _ => .inl (by show o + (i' * n + k) < _; omega)), hc i' k hlt hk, List.getElem?_append_left (by omega)]
          · have hx : (i' - es.length) * n + k < es2.length * n := by
              have := Nat.mul_le_mul_right n (show i' - es.length + 1 ≤ es2.length by omega)
              rw [Nat.add_mul] at this; omega
            have he : o + (i' * n + k) = o + es.length * n + ((i' - es.length) * n + k) := by
              have : i' * n = es.length * n + (i' - es.length) * n := by rw [← Nat.add_mul]; congr 1; omega
              omega
            rw [he, World.cell?_setCells_in b uss2.flatten (o + es.length * n) w (fun j hj => (hcs j hj).1) _ (by omega), ← List.getElem?_eq_getElem, flat_get uss2 hul2 _ _ hk, List.getElem?_append_right (by omega), hlen]
        · obtain ⟨h1, h2', h3⟩ := hO rfl x hx
          refine ⟨.inl h1, ?_, ?_⟩
          · by_cases hin : es.length * n ≤ x ∧ x < es.length * n + uss2.flatten.length
            · rw [show o + x = o + es.length * n + (x - es.length * n) by omega, World.cell?_setCells_in b uss2.flatten (o + es.length * n) w (fun j hj => (hcs j hj).1) _ (by omega)]; rfl
            · rw [World.cell?_setCells_out b _ _ w _ (fun _ _ => by show o + x < _ ∨ _ ≤ o + x; omega)]; exact h2'
          · exact plb_setCells h3
        · simp only [if_true]
          have hd : (F.minus (CS.row b o (cap * n))).dj (CS.row b (o + es.length * n) uss2.flatten.length) := fun b' y h1 h2 => by
            obtain ⟨rfl, h3, h4⟩ := h2
            exact h1.2 ⟨rfl, by omega, by omega⟩
          refine RLL.append (Fa := F.minus (CS.row b o (cap * n))) (Fb := G) (fun b' x' hx => ⟨.inl hx.1, hx.2⟩) (fun b' x' hx => ⟨.inr hx, fun hh => ?_⟩) (hFG.mono (CS.minus_le _ _) (CS.le.refl _))
            (RLL.frame (CS.le.refl _) (fun _ _ h => h) hagS _ _ _ _ (CS.le.refl _) (hp.agree (fun b' x' hx => hF _ _ hx.1) hd) hr)
            (RLL.frame (CS.le.refl _) (fun _ _ h => h) hagS _ _ _ _ (CS.le.refl _) (hpF.agree hG hFG.symm) h2)
          obtain ⟨rfl, h3, h4⟩ := hh
          have := (hO rfl (x' - o) (by omega)).1
          rw [show o + (x' - o) = x' by omega] at this
          exact hFG _ _ this hx
      · -- a new row
        have hrun := run_append_grow (P := P) w T ty e i z ht hi hz ⟨b, o, none⟩ es.length cap uss.flatten (by rw [hn]; exact hfl) hol ⟨b2, o2, none⟩ es2.length c2 uss2.flatten (by rw [hn]; exact hnl) hnews (by omega) (by omega) (growslice_fits (by omega) hby)
        have hge := grownCap_ge w (es.length + es2.length) cap e
        have hgm : grownCap w (es.length + es2.length) cap e ≤ 9223372036854775807 := grownCap_le_maxLen w (es.length + es2.length) cap e (by simp only [Go.maxLen]; omega)
        have hp := pres_alloc' w w.drew rfl rfl rfl (.cells (uss.flatten.toArray ++ uss2.flatten.toArray ++ Builtin.zeroCells z.cells (grownCap w (es.length + es2.length) cap e - (es.length + es2.length))) e)
        have hr2 : RLL w S A (es ++ es2) (uss ++ uss2) (F.un G) := RLL.append (Fa := F.minus (CS.row b o (cap * n))) (Fb := G) (fun b' x' hx => .inl hx.1) (CS.le_un_r _ _) (hFG.mono (CS.minus_le _ _) (CS.le.refl _)) hr h2
        refine ⟨_, _, (CS.row w.heap.size 0 (grownCap w (es.length + es2.length) cap e * n)).un (F.un G), hrun, hp.mono (fun _ _ _ h => h.elim), ?_, ?_⟩
        · rw [← List.length_append]
          refine grown_row (w1 := w.drew) rfl hS (fun b' x' hx => hx.elim (hF b' x') (hG b' x')) hr2 hll (by rw [List.length_append]; exact ⟨hge, hgm⟩) ?_ ?_ rfl rfl
          · rw [List.length_append]
            simp only [Array.size_append, List.size_toArray, size_zeroCells, hzs, hnl, hfl, ← Nat.add_mul]; congr 1; omega
          · rw [List.flatten_append, List.length_append, Nat.add_mul, ← hfl, ← hnl, ← List.length_append]
            simp only [Array.toList_append]
            exact List.take_left
        · intro b' x' hx
          rcases hx with ⟨rfl, _, _⟩ | hx | hx
          · exact ⟨.inr (.inr (Nat.le_refl _)), by rw [size_alloc']; exact Nat.lt_succ_self _⟩
          · exact ⟨.inl hx, Nat.lt_of_lt_of_le (hF _ _ hx) hp.size⟩
          · exact ⟨.inr (.inl hx), Nat.lt_of_lt_of_le (hG _ _ hx) hp.size⟩
end
end Go.Proofs.YtainknkfjekngaaDoor.Vm
