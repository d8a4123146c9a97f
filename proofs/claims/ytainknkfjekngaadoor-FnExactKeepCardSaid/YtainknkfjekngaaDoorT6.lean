/- Code over typed frames does what the code does; functions. -/
import Derived.Test.YtainknkfjekngaaDoorT5
namespace Go.Proofs.YtainknkfjekngaaDoor.Vm
open Go
set_option linter.unusedVariables false
set_option linter.unusedSimpArgs false

theorem fold_anc (A : List Nat) (acc : List Nat) : ∀ (es : List Nat) (m i : Nat), (∀ e ∈ es, acc.getD e 0 = A.getD e 0) →
    ((es.foldl (fun m e => m ||| (2 ^ e ||| acc.getD e 0)) m).testBit i = true ↔ m.testBit i = true ∨ ∃ e ∈ es, i = e ∨ (A.getD e 0).testBit i = true)
  | [], m, i, _ => by simp
  | e :: es, m, i, h => by
    rw [List.foldl_cons, fold_anc A acc es _ i (fun x hx => h x (by simp [hx]))]
    simp only [Nat.testBit_or, Bool.or_eq_true, List.mem_cons, h e (by simp), Nat.testBit_two_pow, decide_eq_true_eq]
    constructor
    · rintro ((h1 | h1 | h1) | ⟨x, h1, h2⟩)
      · exact .inl h1
      · exact .inr ⟨e, .inl rfl, .inl h1.symm⟩
      · exact .inr ⟨e, .inl rfl, .inr h1⟩
      · exact .inr ⟨x, .inr h1, h2⟩
    · rintro (h1 | ⟨x, rfl | h1, h2⟩)
      · exact .inl (.inl h1)
      · exact .inl (.inr (h2.imp Eq.symm id))
      · exact .inr ⟨x, h1, h2⟩
theorem ancs_pre : ∀ (l : List (List Nat)) (acc : List Nat), ∃ t, ancs l acc = acc ++ t ∧ t.length = l.length
  | [], acc => ⟨[], by simp [ancs]⟩
  | es :: l, acc => by
    obtain ⟨t, h1, h2⟩ := ancs_pre l (acc ++ [es.foldl (fun m e => m ||| (2 ^ e ||| acc.getD e 0)) 0])
    exact ⟨_ :: t, by simp only [ancs]; rw [h1]; simp; rfl, by simp [h2]⟩
theorem ancs_at : ∀ (l : List (List Nat)) (acc : List Nat) (k j : Nat) (es : List Nat), acc.length = k → edgesLt k l = true → l[j]? = some es → ∀ i, (((ancs l acc).getD (k + j) 0).testBit i = true ↔ ∃ e ∈ es, i = e ∨ ((ancs l acc).getD e 0).testBit i = true)
  | [], acc, k, j, es, _, _, h, _ => by simp at h
  | e0 :: l, acc, k, 0, es, hk, he, h, i => by
    simp at h; subst h
    simp only [edgesLt, Bool.and_eq_true, List.all_eq_true] at he
    simp only [ancs]
    obtain ⟨t, h1, h2⟩ := ancs_pre l (acc ++ [e0.foldl (fun m e => m ||| (2 ^ e ||| acc.getD e 0)) 0])
    rw [h1]
    have hat : (acc ++ [e0.foldl (fun m e => m ||| (2 ^ e ||| acc.getD e 0)) 0] ++ t).getD (k + 0) 0 = e0.foldl (fun m e => m ||| (2 ^ e ||| acc.getD e 0)) 0 := by
      simp [List.getD_eq_getElem?_getD, ← hk]
    rw [hat, fold_anc (acc ++ [e0.foldl (fun m e => m ||| (2 ^ e ||| acc.getD e 0)) 0] ++ t) acc e0 0 i (fun x hx => by
      have := he.1 x hx
      rw [Nat.blt_eq] at this
      simp only [List.getD_eq_getElem?_getD, List.append_assoc]
      rw [List.getElem?_append_left (by omega)])]
    simp
  | e0 :: l, acc, k, j + 1, es, hk, he, h, i => by
    simp only [edgesLt, Bool.and_eq_true] at he
    simp only [ancs]
    have := ancs_at l (acc ++ [e0.foldl (fun m e => m ||| (2 ^ e ||| acc.getD e 0)) 0]) (k + 1) j es (by simp [hk]) he.2 (by simpa using h) i
    rw [show k + (j + 1) = k + 1 + j by omega]; exact this
theorem edgesLt_at : ∀ (l : List (List Nat)) (k j : Nat) (es : List Nat), edgesLt k l = true → l[j]? = some es → ∀ e ∈ es, e < k + j
  | [], _, _, _, _, h, _, _ => by simp at h
  | e0 :: l, k, 0, es, he, h, e, hm => by
    simp at h; subst h
    simp only [edgesLt, Bool.and_eq_true, List.all_eq_true] at he
    have := he.1 e hm
    rw [Nat.blt_eq] at this; omega
  | e0 :: l, k, j + 1, es, he, h, e, hm => by
    simp only [edgesLt, Bool.and_eq_true] at he
    have := edgesLt_at l (k + 1) j es he.2 (by simpa using h) e hm
    omega
theorem pairOk_at {am fj wj : Nat} : ∀ (l : List (Nat × Nat)) (k i : Nat) (f : Nat × Nat), pairOk am fj wj k l = true → l[i]? = some f → am.testBit (k + i) = true ∨ (f.2 &&& fj = 0 ∧ wj &&& f.1 = 0)
  | [], _, _, _, _, h => by simp at h
  | (fi, wi) :: l, k, 0, f, hp, h => by
    simp at h; subst h
    simp only [pairOk, Bool.and_eq_true, Bool.or_eq_true] at hp
    exact hp.1.imp id (fun h => ⟨Nat.eq_of_beq_eq_true h.1, Nat.eq_of_beq_eq_true h.2⟩)
  | (fi, wi) :: l, k, i + 1, f, hp, h => by
    simp only [pairOk, Bool.and_eq_true] at hp
    have := pairOk_at l (k + 1) i f hp.2 (by simpa using h)
    rw [show k + (i + 1) = k + 1 + i by omega]; exact this
theorem pairsOk_at : ∀ (as : List Nat) (done l : List (Nat × Nat)) (j : Nat) (f : Nat × Nat) (am : Nat), pairsOk as done l = true → l[j]? = some f → as[j]? = some am → pairOk am f.1 f.2 0 (done ++ l.take j) = true
  | [], _, _, _, _, _, _, _, h => by simp at h
  | a :: as, done, [], _, _, _, _, h, _ => by simp at h
  | a :: as, done, (f0, w0) :: l, 0, f, am, hp, h, ha => by
    simp at h ha; subst h ha
    simp only [pairsOk, Bool.and_eq_true] at hp
    simpa using hp.1
  | a :: as, done, (f0, w0) :: l, j + 1, f, am, hp, h, ha => by
    simp only [pairsOk, Bool.and_eq_true] at hp
    have := pairsOk_at as (done ++ [(f0, w0)]) l j f am hp.2 (by simpa using h) (by simpa using ha)
    simpa using this
theorem land_zero {a b t : Nat} (h : a &&& b = 0) (ha : a.testBit t = true) : b.testBit t = false := by
  have := congrArg (fun n => n.testBit t) h
  simpa [Nat.testBit_and, ha] using this

theorem take_flat (uss : List (List Upd)) (i : Nat) (hi : i ≤ uss.length) : (List.range i).flatMap (fun j => uss.getD j []) = (uss.take i).flatten := by
  induction i with
  | zero => simp
  | succ i ih =>
    rw [List.range_succ, List.flatMap_append, ih (by omega), List.take_succ_eq_append_getElem (by omega), List.flatten_append]
    simp [List.getD_eq_getElem?_getD, List.getElem?_eq_getElem (show i < uss.length by omega)]

theorem fold_enc : ∀ (l : List DR) (t0 : TSt), (l.foldl (fun t q => t.upds q.us) t0).enc = t0.enc.upds (l.map fun q => q.us.map SUpd.enc).flatten
  | [], _ => rfl
  | q :: l, t0 => by
    rw [List.foldl_cons, fold_enc l, enc_upds, List.map_cons, List.flatten_cons, upds_append]
theorem range_flat (uss : List (List Upd)) (a m : Nat) (h : a + m ≤ uss.length) : (List.range' a m).flatMap (fun j => uss.getD j []) = ((uss.drop a).take m).flatten := by
  rw [← take_flat (uss.drop a) m (by rw [List.length_drop]; omega), List.range'_eq_map_range, List.flatMap_map]
  apply fm_congr
  intro j _
  rw [List.getD_eq_getElem?_getD, List.getD_eq_getElem?_getD, List.getElem?_drop]
theorem map_us {fs : List DR} {uss : List (List Upd)} (h : ∀ (j : Nat) (r : DR), fs[j]? = some r → uss[j]? = some (r.us.map SUpd.enc)) (a m : Nat) (hl : a + m ≤ fs.length) : (((fs.drop a).take m).map fun q => q.us.map SUpd.enc) = (uss.drop a).take m := by
  apply List.ext_getElem?
  intro j
  rw [List.getElem?_map]
  by_cases hj : j < m
  · rw [List.getElem?_take_of_lt hj, List.getElem?_take_of_lt hj, List.getElem?_drop, List.getElem?_drop]
    have : fs[a + j]? = some fs[a + j] := List.getElem?_eq_getElem (by omega)
    rw [this, h _ _ this]; rfl
  · rw [List.getElem?_eq_none (by rw [List.length_take]; omega), List.getElem?_eq_none (by rw [List.length_take]; omega)]; rfl
section
variable {P : Program} {N : Nat} {an : Ann} {H : List TFn}

theorem exists_round {p : Nat → Prop} (h : ∃ n, p n) : ∃ n, p n ∧ ∀ m, p m → n ≤ m := exists_least p h

open Classical in
theorem loop_v {σ R : Type} {r0 : R} {c : Code} {Q : Exit → St → Prop} (enc : σ → St) (step : (σ → Option R) → σ → Option R)
    (hstep : ∀ (rec : σ → Option R) (x : σ), step rec x = some r0 → VT P N c (enc x) (fun e st' => match e with | .normal => ∃ x', st' = enc x' ∧ rec x' = some r0 | e => Q e st'))
    (n : Nat) (x : σ) (h : rounds step n x = some r0) : VT P N (.loop c) (enc x) Q := by
  let J : Nat → St → Prop := fun n st => ∃ x, st = enc x ∧ rounds step n x = some r0
  refine VT.loop (fun st => ∃ n, J n st) (fun st => if h : ∃ n, J n st then Classical.choose (exists_round h) else 0) ⟨n, x, rfl, h⟩ ?_
  intro st hJ
  have hc := Classical.choose_spec (exists_round hJ)
  have hm : (if h : ∃ n, J n st then Classical.choose (exists_round h) else 0) = Classical.choose (exists_round hJ) := dif_pos hJ
  obtain ⟨⟨x, rfl, hx⟩, _⟩ := hc
  cases hn : Classical.choose (exists_round hJ) with
  | zero => rw [hn] at hx; simp [rounds] at hx
  | succ m =>
    rw [hn] at hx
    refine VT.mono (hstep _ x hx) (fun e st' hq => ?_)
    cases e with
    | normal =>
      obtain ⟨x', rfl, hx'⟩ := hq
      refine ⟨_, ⟨⟨m, x', rfl, hx'⟩, ?_⟩, fun _ _ _ _ _ h => h⟩
      have hJ' : ∃ n, J n (enc x') := ⟨m, x', rfl, hx'⟩
      rw [hm, hn]
      have h1 : (if h : ∃ n, J n (enc x') then Classical.choose (exists_round h) else 0) = Classical.choose (exists_round hJ') := dif_pos hJ'
      rw [h1]
      have := (Classical.choose_spec (exists_round hJ')).2 m ⟨x', rfl, hx'⟩
      omega
    | _ => exact ⟨st', hq, fun _ _ _ _ _ h => h⟩

theorem mD_reg {code : Code} {es : Option (List (List Nat))} {ops : List XG} (h : mD P N an code = some (.reg es ops)) : ∃ id o d, code = .region id o d ∧ mL P N o an id 0 o.toList = some ops ∧ es = if d then some (edgesOf o) else none := by
  cases code <;> simp only [mD] at h <;> try (first | (cases h; done) | (split at h <;> cases h; done))
  · obtain ⟨xl, h1, h2⟩ := Option.map_eq_some_iff.1 h
    simp only [XD.reg.injEq] at h2
    obtain ⟨rfl, rfl⟩ := h2
    exact ⟨_, _, _, rfl, h1, rfl⟩
  all_goals (obtain ⟨_, _, h2⟩ := Option.map_eq_some_iff.1 h; cases h2)
theorem mD_seq {code : Code} {a b : XD} (h : mD P N an code = some (.seq a b)) : ∃ a' b', code = .seq a' b' ∧ mD P N an a' = some a ∧ mD P N an b' = some b := by
  cases code <;> simp only [mD] at h <;> try (first | (cases h; done) | (obtain ⟨_, _, h2⟩ := Option.map_eq_some_iff.1 h; cases h2; done) | (split at h <;> cases h; done))
  split at h <;> cases h
  exact ⟨_, _, rfl, by assumption, by assumption⟩
theorem mD_cond {code : Code} {c : XO} {a b : XD} (h : mD P N an code = some (.cond c a b)) : ∃ c' a' b', code = .cond c' a' b' ∧ cO 0 c' = some c ∧ mD P N an a' = some a ∧ mD P N an b' = some b := by
  cases code <;> simp only [mD] at h <;> try (first | (cases h; done) | (obtain ⟨_, _, h2⟩ := Option.map_eq_some_iff.1 h; cases h2; done) | (split at h <;> cases h; done))
  split at h <;> cases h
  exact ⟨_, _, _, rfl, by assumption, by assumption, by assumption⟩
theorem mD_block {code : Code} {id : Nat} {b : XD} (h : mD P N an code = some (.block id b)) : ∃ b', code = .block id b' ∧ mD P N an b' = some b := by
  cases code <;> simp only [mD] at h <;> try (first | (cases h; done) | (split at h <;> cases h; done))
  all_goals (obtain ⟨x, h1, h2⟩ := Option.map_eq_some_iff.1 h; try (cases h2; done))
  cases h2
  exact ⟨_, rfl, h1⟩
theorem mD_loop {code : Code} {b : XD} (h : mD P N an code = some (.loop b)) : ∃ b', code = .loop b' ∧ mD P N an b' = some b := by
  cases code <;> simp only [mD] at h <;> try (first | (cases h; done) | (split at h <;> cases h; done))
  all_goals (obtain ⟨x, h1, h2⟩ := Option.map_eq_some_iff.1 h; try (cases h2; done))
  cases h2
  exact ⟨_, rfl, h1⟩
theorem mD_leaf {code : Code} : (mD P N an code = some .skip → code = .skip) ∧ (∀ id, mD P N an code = some (.exit id) → code = .exit id) ∧ (mD P N an code = some .ret → code = .ret) := by
  refine ⟨fun h => ?_, fun id h => ?_, fun h => ?_⟩
  all_goals
    cases code <;> simp only [mD] at h <;> first
      | rfl
      | (cases h; done)
      | (obtain ⟨_, _, h2⟩ := Option.map_eq_some_iff.1 h; cases h2; done)
      | (split at h <;> cases h; done)
      | (cases h; rfl)

theorem VT.regL {id : Nat} {ops : Array Oper} {st : St} {Q : Exit → St → Prop} (us : Nat → List Upd) {n : Nat} {md : Md} {o : Oper} {x : XOp} (hn : ops.size = n + 1) (h : ∀ i, i < n → OTg P N ops i (st.upds ((List.range i).flatMap us)) (us i))
    (ho : ops[n]? = some o) (hx : mG P N ops md o = some (.p x)) (hl : stepX P x (st.upds ((List.range n).flatMap us)) fun st' => Q .normal st') : VT P N (.region id ops false) st Q := by
  intro B a w S fp hr
  refine wp_region ?_
  have key : ∀ (k i : Nat) (a : Act) (w : World) (S : CS) (fp : Nat → CS), i + k = n → Rl B N (st.upds ((List.range i).flatMap us)) a w S fp → wpOps P ops (fun e a' w' => ∃ st' S' fp', Q e st' ∧ Rl B N st' a' w' S' fp') (List.range' i (k + 1)) a w := by
    intro k
    induction k with
    | zero =>
      intro i a w S fp hi hr
      obtain rfl : i = n := by omega
      rw [List.range'_succ, wpOps_cons]
      unfold wpOp
      rw [ho]
      simp only
      unfold mG at hx
      split at hx
      · rename_i y hy
        split at hx
        · rename_i hg
          cases hx
          rw [if_pos (by simp [Region.wanted, hg])]
          exact .inl (mOp_sound hy hl B a w S fp _ _ hr (fun st' a' w' S' fp' hq hr' => ⟨st', S', fp', hq, hr'⟩))
        · split at hx <;> try (cases hx; done)
          split at hx <;> cases hx
      · cases hx
    | succ k ih =>
      intro i a w S fp hi hr
      rw [List.range'_succ, wpOps_cons]
      refine h i (by omega) B a w S fp _ _ hr (fun a' w' S' fp' hr' => ih (i + 1) a' w' S' fp' (by omega) ?_)
      rw [List.range_succ, List.flatMap_append, upds_append]
      simpa using hr'
  have := key n 0 a w S fp (by omega) (show Rl B N (st.upds ((List.range 0).flatMap us)) a w S fp from hr)
  rw [← hn] at this
  simpa [List.range_eq_range'] using this
theorem nilable_v {s : SV} {o : Bool} {n : Nat} (h : s.v = .sl o n []) (hs : isSl s = true) : nilable s = true := by
  cases s <;> simp [isSl] at hs
  · rename_i o e l
    simp only [SV.v, V.sl.injEq] at h
    have := h.2.2
    cases l with
    | nil => rfl
    | cons x l => simp at this
  · rfl

theorem evC_v (hm : P.follows .mixedOrders = true) (hH : ∀ F ∈ H, FnOk P F) {R0 : Type} {fin : TSt → Option R0} : ∀ (c : TC) (code : Code) (R : Type) (kr : R0 → Option R) (ts : TSt) (K : Exit → TSt → Option R) (r0 : R), (∀ ts r q, fin ts = some r → kr r = some q → K .ret ts = some q) → mD P N an code = some c.x → evC H fin c R kr ts K = some r0 →
    VT P N code ts.enc (fun e st' => ∃ ts', st' = ts'.enc ∧ K e ts' = some r0)
  | .skip, code, R, kr, ts, K, r0, hkr, hc, h => by
    obtain rfl := mD_leaf.1 hc
    exact fun B a w S fp hr => wp_skip ⟨_, S, fp, ⟨ts, rfl, h⟩, hr⟩
  | .nq l d neg y, code, R, kr, ts, K, r0, hkr, hc, h => by
    obtain ⟨id, ops, dr, rfl, h1, h2⟩ := mD_reg hc
    cases dr with
    | true => cases h2
    | false =>
      obtain ⟨tsn, uss, h3, h4, h5, h6⟩ := evR_v hH h
      obtain ⟨h7, h8⟩ := mL_at h1
      have hsz : ops.size = l.length + 1 := by simpa using h7.symm
      have hlen : uss.length = l.length := h3
      obtain ⟨s, o, n, es, g1, g2, g3, g4⟩ := svK_v h5
      obtain ⟨k1, k2⟩ := both_v g4
      have hn : ops.toList[l.length]? = some (ops[l.length]'(by omega)) := by simp [hsz]
      obtain ⟨x, h9, h10⟩ := h8 _ _ hn
      have hx : x = .p (.nilq d neg y) := by
        have : (l.map TG.x ++ [XG.p (.nilq d neg y)])[l.length]? = some (.p (.nilq d neg y)) := by
          rw [List.getElem?_append_right (by simp)]; simp
        exact Option.some.inj (h9.symm.trans this)
      subst hx
      rw [Nat.zero_add] at h10
      refine VT.regL (fun j => uss.getD j []) hsz (fun i hi => ?_) (Array.getElem?_eq_getElem (by omega)) h10 ?_
      · rw [take_flat _ _ (by omega)]
        have ho : ops.toList[i]? = some (ops[i]'(by omega)) := by simp [show i < ops.size by omega]
        obtain ⟨x, h9, h10⟩ := h8 i _ ho
        rw [List.getElem?_append_left (by simpa using hi), List.getElem?_map] at h9
        obtain ⟨g, hg, rfl⟩ := Option.map_eq_some_iff.1 h9
        have hu : uss[i]? = some (uss.getD i []) := by rw [List.getD_eq_getElem?_getD, List.getElem?_eq_getElem (by omega)]; rfl
        rw [Nat.zero_add] at h10
        exact mG_op (Array.getElem?_eq_getElem (by omega)) h10 (h6 i g _ hg hu)
      · rw [take_flat _ _ (by omega), List.take_of_length_le (by omega), ← h4]
        simp only [stepX, nilX, g3]
        refine ⟨⟨_, ?_, k1⟩, fun he => ⟨_, ?_, k2 (nilable_v (by rw [g1, he]) g2)⟩⟩
        · rw [enc_put]; rfl
        · rw [enc_put]; rfl
  | .reg none l, code, R, kr, ts, K, r0, hkr, hc, h => by
    obtain ⟨id, ops, d, rfl, h1, h2⟩ := mD_reg hc
    cases d with
    | true => cases h2
    | false =>
      obtain ⟨tsn, uss, h3, h4, h5, h6⟩ := evR_v hH h
      obtain ⟨h7, h8⟩ := mL_at h1
      have hlen : uss.length = ops.size := by rw [h3]; simpa using h7
      refine VT.reg (fun j => uss.getD j []) (fun i hi => ?_) ⟨tsn, ?_, h5⟩
      · rw [take_flat _ _ (by omega)]
        have ho : ops.toList[i]? = some ops[i] := by simp [hi]
        obtain ⟨x, h9, h10⟩ := h8 i _ ho
        rw [List.getElem?_map] at h9
        obtain ⟨g, hg, rfl⟩ := Option.map_eq_some_iff.1 h9
        have hu : uss[i]? = some (uss.getD i []) := by rw [List.getD_eq_getElem?_getD, List.getElem?_eq_getElem (by omega)]; rfl
        rw [Nat.zero_add] at h10
        exact mG_op (Array.getElem?_eq_getElem hi) h10 (h6 i g _ hg hu)
      · rw [take_flat _ _ (by omega), List.take_of_length_le (by omega), h4]
  | .reg (some es) l, code, R, kr, ts, K, r0, hkr, hc, h => by
    obtain ⟨id, ops, d, rfl, h1, h2⟩ := mD_reg hc
    cases d with
    | false => cases h2
    | true =>
      simp only [if_true, Option.some.injEq] at h2
      subst h2
      obtain ⟨tsn, uss, fs, h3, h3', h4, h5, h6⟩ := evD_v hH h
      obtain ⟨h7, h8⟩ := mL_at h1
      have he : edgesLt 0 (edgesOf ops) = true := by
        rw [cond_if] at h5
        split at h5
        · rename_i hord
          simp only [ordOk, Bool.and_eq_true] at hord
          exact hord.1
        · simp only [ordX, cond_if] at h5
          split at h5 <;> try (cases h5; done)
          rename_i hord
          simp only [Bool.and_eq_true] at hord
          exact hord.1
      have hlen : uss.length = ops.size := by rw [h3]; simpa using h7
      have hlf : fs.length = ops.size := by rw [h3']; simpa using h7
      obtain ⟨t, hA, hAl⟩ := ancs_pre (edgesOf ops) []
      have hAl' : (ancs (edgesOf ops) []).length = ops.size := by rw [hA]; simp [hAl, edgesOf]
      have hes : ∀ (i : Nat) (o : Oper), ops[i]? = some o → (edgesOf ops)[i]? = some ((o.after.toList.filter (Region.binds .any)).map (·.on)) := fun i o ho => by
        simp [edgesOf, ho]
      have hanc : ∀ (i : Nat) (o : Oper), ops[i]? = some o → ∀ k, (((ancs (edgesOf ops) []).getD i 0).testBit k = true ↔ ∃ e ∈ o.after.toList, Region.binds .any e = true ∧ (k = e.on ∨ ((ancs (edgesOf ops) []).getD e.on 0).testBit k = true)) := fun i o ho k => by
        have := ancs_at (edgesOf ops) [] 0 i _ rfl he (hes i o ho) k
        rw [Nat.zero_add] at this
        rw [this]
        simp only [List.mem_map, List.mem_filter]
        constructor
        · rintro ⟨x, ⟨e, ⟨h1, h2⟩, rfl⟩, h3⟩; exact ⟨e, h1, h2, h3⟩
        · rintro ⟨e, h1, h2, h3⟩; exact ⟨e.on, ⟨e, ⟨h1, h2⟩, rfl⟩, h3⟩
      have hedge : ∀ (i : Nat) (o : Oper), ops[i]? = some o → ∀ e ∈ o.after.toList, Region.binds .any e = true → e.on < i := fun i o ho e hm hb => by
        have := edgesLt_at (edgesOf ops) 0 i _ he (hes i o ho) e.on (List.mem_map.2 ⟨e, List.mem_filter.2 ⟨hm, hb⟩, rfl⟩)
        omega
      have hnone : ∀ i, ops.size ≤ i → (ancs (edgesOf ops) []).getD i 0 = 0 := fun i hi => by
        rw [List.getD_eq_getElem?_getD, List.getElem?_eq_none (by omega)]; rfl
      have hlt : ∀ i j, ((ancs (edgesOf ops) []).getD j 0).testBit i = true → i < j := by
        intro i j
        induction j using Nat.strongRecOn with
        | _ j ih =>
          intro hb
          by_cases hj : j < ops.size
          · obtain ⟨e, h1, h2, h3⟩ := (hanc j _ (Array.getElem?_eq_getElem hj) i).1 hb
            have h4 := hedge j _ (Array.getElem?_eq_getElem hj) e h1 h2
            rcases h3 with rfl | h3
            · exact h4
            · have := ih _ h4 h3; omega
          · rw [hnone j (by omega)] at hb; simp at hb
      have hclo : ∀ L : Nat → Bool, (∀ (i : Nat) (o : Oper), ops[i]? = some o → L i = true → ∀ e ∈ o.after.toList, Region.binds .any e = true → L e.on = true) →
          ∀ (i : Nat) (o : Oper), ops[i]? = some o → (∀ e ∈ o.after.toList, Region.binds .any e = true → L e.on = true) → ∀ k, ((ancs (edgesOf ops) []).getD i 0).testBit k = true → L k = true := by
        intro L hL i
        induction i using Nat.strongRecOn with
        | _ i ih =>
          intro o ho hpre k hk
          obtain ⟨e, h1, h2, h3⟩ := (hanc i o ho k).1 hk
          have h4 := hedge i o ho e h1 h2
          have h5 := hpre e h1 h2
          have hi := (Array.getElem?_eq_some_iff.1 ho).1
          rcases h3 with rfl | h3
          · exact h5
          · exact ih e.on h4 _ (Array.getElem?_eq_getElem (show e.on < ops.size by omega)) (hL e.on _ (Array.getElem?_eq_getElem (show e.on < ops.size by omega)) h5) k h3
      have hgu : ∀ i (hi : i < ops.size), l[i]? = some (l[i]'(by omega)) ∧ uss[i]? = some (uss.getD i []) ∧ ∃ r, fs[i]? = some r := fun i hi =>
        ⟨List.getElem?_eq_getElem (by omega), by rw [List.getD_eq_getElem?_getD, List.getElem?_eq_getElem (by omega)]; rfl, _, List.getElem?_eq_getElem (by omega)⟩
      have hft : ∀ (i : Nat) (r : DR), fs[i]? = some r → (fs.map DR.fw)[i]? = some (r.f, r.w) := fun i r h => by rw [List.getElem?_map, h]; rfl
      have hft2 : ∀ (i : Nat) (r : DR), fs[i]? = some r → (fs.map DR.ww)[i]? = some (r.w, r.w) := fun i r h => by rw [List.getElem?_map, h]; rfl
      have hAt : ∀ k, k < ops.size → (ancs (edgesOf ops) [])[k]? = some ((ancs (edgesOf ops) []).getD k 0) := fun k hk => by rw [List.getD_eq_getElem?_getD, List.getElem?_eq_getElem (by omega)]; rfl
      have hrun : ∀ i, i < ops.size → ∀ st2 : St, (∀ t, (∃ r : DR, fs[i]? = some r ∧ r.f.testBit t = true) → st2 t = (ts.enc.upds ((List.range i).flatMap fun j => uss.getD j [])) t) → OTg P N ops i st2 (uss.getD i []) := fun i hi st2 hs => by
        rw [take_flat _ _ (by omega)] at hs
        have ho : ops.toList[i]? = some ops[i] := by simp [hi]
        obtain ⟨x, h9, h10⟩ := h8 i _ ho
        rw [List.getElem?_map] at h9
        obtain ⟨g, hg, rfl⟩ := Option.map_eq_some_iff.1 h9
        obtain ⟨_, hu, r, hr⟩ := hgu i hi
        rw [Nat.zero_add] at h10
        exact mG_op (Array.getElem?_eq_getElem hi) h10 ((h6 i g _ _ hg hu hr).1.1 st2 (fun t ht => hs t ⟨r, hr, ht⟩))
      have hwr : ∀ i u, i < ops.size → u ∈ uss.getD i [] → ∃ r : DR, fs[i]? = some r ∧ r.f.testBit u.t = true ∧ r.w.testBit u.t = true := fun i u hi hu => by
        obtain ⟨hg, hu', r, hr⟩ := hgu i hi
        exact ⟨r, hr, (h6 i _ _ _ hg hu' hr).1.2 u hu⟩
      rw [cond_if] at h5
      split at h5
      · rename_i hord
        simp only [ordOk, Bool.and_eq_true] at hord
        have hp := hord.2
        refine VT.regAny hm (fun j => uss.getD j []) (fun i t => ∃ r : DR, fs[i]? = some r ∧ r.f.testBit t = true) (fun i j => ((ancs (edgesOf ops) []).getD j 0).testBit i = true) hrun (fun i u hi hu => ?_) (fun i j t hi hj hij n1 n2 hu ht => ?_) hlt hedge hclo ⟨tsn, ?_, h5⟩
        · obtain ⟨r, h1, h2, _⟩ := hwr i u hi hu; exact ⟨r, h1, h2⟩
        · obtain ⟨u, hu, rfl⟩ := hu
          obtain ⟨ri, hri, _, hw⟩ := hwr i u hi hu
          obtain ⟨rj, hrj, ht⟩ := ht
          rcases Nat.lt_or_gt_of_ne hij with hlt' | hgt
          · have h1 := pairsOk_at _ [] _ j _ _ hp (hft j rj hrj) (hAt j hj)
            have h2 := pairOk_at _ 0 i _ h1 (by rw [List.nil_append, List.getElem?_take_of_lt hlt']; exact hft i ri hri)
            rw [Nat.zero_add] at h2
            rcases h2 with h2 | h2
            · exact n1 h2
            · have := land_zero h2.1 hw; rw [ht] at this; cases this
          · have h1 := pairsOk_at _ [] _ i _ _ hp (hft i ri hri) (hAt i hi)
            have h2 := pairOk_at _ 0 j _ h1 (by rw [List.nil_append, List.getElem?_take_of_lt hgt]; exact hft j rj hrj)
            rw [Nat.zero_add] at h2
            rcases h2 with h2 | h2
            · exact n2 h2
            · have := land_zero h2.2 hw; rw [ht] at this; cases this
        · rw [take_flat _ _ (by omega), List.take_of_length_le (by omega), h4]
      · simp only [ordX, cond_if] at h5
        split at h5 <;> try (cases h5; done)
        rename_i hord
        simp only [Bool.and_eq_true] at hord
        have hp := hord.2
        obtain ⟨hK, hall⟩ := exAll_v hH h5
        have hex : ∀ (j : Nat) (r : DR), fs[j]? = some r → ExOk P (ancs (edgesOf ops) []) fs j r := fun j r h => by have := hall j r h; rwa [Nat.zero_add] at this
        refine VT.regEx hm (fun j => uss.getD j []) (fun i t => ∃ r : DR, fs[i]? = some r ∧ r.f.testBit t = true) (fun i j => ((ancs (edgesOf ops) []).getD j 0).testBit i = true)
          (fun i => match fs[i]? with | some r => (match confL (ancs (edgesOf ops) []) i r.f 0 fs with | [k] => some k | _ => none) | none => none) hrun (fun i k hi hk hki hx st2 hs => ?_) (fun i u hi hu => ?_) (fun i j t hi hj hij n1 n2 hu ht => ?_) (fun i j t hi hj hij n1 n2 hu ht => ?_) hlt hedge hclo ⟨tsn, ?_, hK⟩
        · obtain ⟨hg, hu, r, hr⟩ := hgu i hi
          simp only [hr] at hx
          rcases hex i r hr with h0 | ⟨k', rk, hX, hrk, hrun2⟩
          · rw [h0] at hx; cases hx
          · rw [hX] at hx
            simp only [Option.some.injEq] at hx
            subst hx
            obtain ⟨_, q1, q2, q3, q4⟩ := h6 i _ _ _ hg hu hr
            obtain ⟨hgk, huk, _, _⟩ := hgu k' hk
            obtain ⟨_, p1, p2, _, _⟩ := h6 k' _ _ _ hgk huk hrk
            have ho : ops.toList[i]? = some ops[i] := by simp [hi]
            obtain ⟨x, h9, h10⟩ := h8 i _ ho
            rw [List.getElem?_map, hg] at h9
            obtain rfl := Option.some.inj h9
            rw [Nat.zero_add] at h10
            have halt : (altS fs i k' r rk).enc = ts.enc.upds (if k' < i then (List.range k').flatMap (fun j => uss.getD j []) ++ (List.range' (k' + 1) (i - (k' + 1))).flatMap (fun j => uss.getD j []) else (List.range i).flatMap (fun j => uss.getD j []) ++ uss.getD k' []) := by
              unfold altS
              by_cases hki' : k' < i
              · rw [show Nat.blt k' i = true from by rw [Nat.blt_eq]; exact hki', cond_true, if_pos hki', fold_enc, p1, ← upds_append, take_flat _ _ (by omega)]
                congr 2
                rw [range_flat uss (k' + 1) (i - (k' + 1)) (by omega)]
                congr 1
                exact map_us (fun j r' hj => by
                  have hjl : j < ops.size := by have := (List.getElem?_eq_some_iff.1 hj).1; omega
                  obtain ⟨hgj, huj, _, _⟩ := hgu j hjl
                  rw [huj, (h6 j _ _ _ hgj huj hj).2.2.1]) _ _ (by omega)
              · rw [show Nat.blt k' i = false from by cases hb : Nat.blt k' i with | false => rfl | true => rw [Nat.blt_eq] at hb; exact absurd hb hki', cond_false, if_neg hki', enc_upds, q1, p2, ← upds_append, take_flat _ _ (by omega)]
            have := hrun2 (by rw [q3]; exact q4) st2 (fun t ht => by rw [hs t ⟨r, hr, ht⟩, halt])
            rw [q2, q3] at this
            exact mG_op (Array.getElem?_eq_getElem hi) h10 this
        · obtain ⟨r, h1, h2, _⟩ := hwr i u hi hu; exact ⟨r, h1, h2⟩
        · obtain ⟨u, hu, rfl⟩ := hu
          obtain ⟨ri, hri, _, hw⟩ := hwr i u hi hu
          obtain ⟨rj, hrj, ht⟩ := ht
          have hm := confL_v (as := ancs (edgesOf ops) []) (i := j) (f := rj.f) (t := u.t) (j := 0) hri hw ht (by rw [Nat.zero_add]; exact hij) (by rw [Nat.zero_add]; simpa using n1) (by rw [Nat.zero_add]; simpa using n2)
          rw [Nat.zero_add] at hm
          simp only [hrj]
          rcases hex j rj hrj with h0 | ⟨k', rk, hX, _, _⟩
          · rw [h0] at hm; cases hm
          · rw [hX] at hm ⊢
            rw [List.mem_singleton.1 hm]
        · obtain ⟨u, hu, rfl⟩ := hu
          obtain ⟨u2, hu2, e2⟩ := ht
          obtain ⟨ri, hri, _, hw⟩ := hwr i u hi hu
          obtain ⟨rj, hrj, _, hw2⟩ := hwr j u2 hj hu2
          rw [e2] at hw2
          rcases Nat.lt_or_gt_of_ne hij with hlt' | hgt
          · have h1 := pairsOk_at _ [] _ j _ _ hp (hft2 j rj hrj) (hAt j hj)
            have h2 := pairOk_at _ 0 i _ h1 (by rw [List.nil_append, List.getElem?_take_of_lt hlt']; exact hft2 i ri hri)
            rw [Nat.zero_add] at h2
            rcases h2 with h2 | h2
            · exact n1 h2
            · have := land_zero h2.1 hw; rw [hw2] at this; cases this
          · have h1 := pairsOk_at _ [] _ i _ _ hp (hft2 i ri hri) (hAt i hi)
            have h2 := pairOk_at _ 0 j _ h1 (by rw [List.nil_append, List.getElem?_take_of_lt hgt]; exact hft2 j rj hrj)
            rw [Nat.zero_add] at h2
            rcases h2 with h2 | h2
            · exact n2 h2
            · have := land_zero h2.2 hw; rw [hw2] at this; cases this
        · rw [take_flat _ _ (by omega), List.take_of_length_le (by omega), h4]
  | .seq a b, code, R, kr, ts, K, r0, hkr, hc, h => by
    obtain ⟨a', b', rfl, h1, h2⟩ := mD_seq hc
    intro B ac w S fp hr
    refine wp_seq (wp_mono (evC_v hm hH a a' R kr ts _ r0 (by exact hkr) h1 h B ac w S fp hr) ?_)
    rintro e a2 w2 ⟨st2, S2, fp2, ⟨ts2, rfl, hq⟩, hr2⟩
    cases e with
    | normal => exact evC_v hm hH b b' R kr ts2 K r0 hkr h2 hq B a2 w2 S2 fp2 hr2
    | _ => exact ⟨_, S2, fp2, ⟨ts2, rfl, hq⟩, hr2⟩
  | .cond c a b, code, R, kr, ts, K, r0, hkr, hc, h => by
    obtain ⟨c', a', b', rfl, h1, h2, h3⟩ := mD_cond hc
    simp only [evC] at h
    split at h <;> try (cases h; done)
    rename_i t ht
    have href : ∀ b, b = t → (ts.refX c b).enc = ts.enc := fun b hb => by
      subst hb
      cases c with
      | t n => exact ref_enc ht
      | _ => rfl
    intro B ac w S fp hr
    have hel := hr.lit h1 (show ts.enc.val c = .lit (.bool t) by rw [enc_val, ht]; rfl)
    cases t with
    | true =>
      have := evC_v hm hH a a' R kr (ts.refX c true) K r0 hkr h2 h
      rw [href true rfl] at this
      exact wp_cond_split hel (fun _ => this B ac w S fp hr) (fun e => by cases e)
    | false =>
      have := evC_v hm hH b b' R kr (ts.refX c false) K r0 hkr h3 h
      rw [href false rfl] at this
      exact wp_cond_split hel (fun e => by cases e) (fun _ => this B ac w S fp hr)
  | .block id b, code, R, kr, ts, K, r0, hkr, hc, h => by
    obtain ⟨b', rfl, h1⟩ := mD_block hc
    intro B ac w S fp hr
    refine wp_block (wp_mono (evC_v hm hH b b' R kr ts _ r0 (by exact hkr) h1 h B ac w S fp hr) ?_)
    rintro e a2 w2 ⟨st2, S2, fp2, ⟨ts2, rfl, hq⟩, hr2⟩
    cases e with
    | exit j =>
      simp only [Exit.inBlock]
      simp only [cond_if] at hq
      split
      · rename_i e
        rw [if_pos (by rw [e]; simp)] at hq
        exact ⟨_, S2, fp2, ⟨ts2, rfl, hq⟩, hr2⟩
      · rename_i e
        rw [if_neg (fun hb => e (Nat.eq_of_beq_eq_true hb))] at hq
        exact ⟨_, S2, fp2, ⟨ts2, rfl, hq⟩, hr2⟩
    | _ => exact ⟨_, S2, fp2, ⟨ts2, rfl, hq⟩, hr2⟩
  | .loop s b, code, R, kr, ts, K, r0, hkr, hc, h => by
    obtain ⟨b', rfl, h1⟩ := mD_loop hc
    simp only [evC] at h
    split at h <;> try (cases h; done)
    rename_i x hx
    refine VT.pre (st0 := (s.enc x).enc) ?_ (fun B a w S fp hr => Shs.dec_v hx hr)
    refine loop_v (fun x => (s.enc x).enc) _ (fun rec x hs => ?_) fuel x h
    refine VT.mono (evC_v hm hH b b' R kr (s.enc x) _ r0 (by exact hkr) h1 hs) (fun e st' hq => ?_)
    obtain ⟨ts', rfl, hq⟩ := hq
    cases e with
    | normal =>
      simp only at hq
      split at hq <;> try (cases hq; done)
      rename_i x' hx'
      exact ⟨_, ⟨x', rfl, hq⟩, fun B a w S fp hr => Shs.dec_v hx' hr⟩
    | _ => exact ⟨_, ⟨ts', rfl, hq⟩, fun _ _ _ _ _ h => h⟩
  | .exit id, code, R, kr, ts, K, r0, hkr, hc, h => by
    obtain rfl := mD_leaf.2.1 id hc
    exact fun B a w S fp hr => wp_exit ⟨_, S, fp, ⟨ts, rfl, h⟩, hr⟩
  | .ret, code, R, kr, ts, K, r0, hkr, hc, h => by
    obtain rfl := mD_leaf.2.2 hc
    exact fun B a w S fp hr => wp_ret ⟨_, S, fp, ⟨ts, rfl, h⟩, hr⟩
  | .join s b, code, R, kr, ts, K, r0, hkr, hc, h => by
    simp only [evC] at h
    obtain ⟨o, h1, h2⟩ := Option.bind_eq_some_iff.1 h
    refine VT.mono (evC_v hm hH b code _ _ ts _ o (fun ts r q h1 h2 => by obtain ⟨q', h3, rfl⟩ := Option.map_eq_some_iff.1 h2; simp only [hkr ts r q' h1 h3, Option.map_some]) hc h1) (fun e st' hq => ?_)
    obtain ⟨ts', rfl, hq⟩ := hq
    cases e with
    | normal =>
      simp only at hq
      split at hq <;> try (cases hq; done)
      rename_i x hx
      cases hq
      exact ⟨_, ⟨_, rfl, h2⟩, fun B a w S fp hr => Shs.dec_v hx hr⟩
    | _ =>
      simp only at hq
      obtain ⟨r, hr, rfl⟩ := Option.map_eq_some_iff.1 hq
      simp only [Sum.elim_inr, Option.some.injEq] at h2
      subst h2
      exact ⟨_, ⟨ts', rfl, hr⟩, fun _ _ _ _ _ h => h⟩
  | .jl id s o b, code, R, kr, ts, K, r0, hkr, hc, h => by
    obtain ⟨b1, rfl, h1⟩ := mD_block hc
    obtain ⟨b', rfl, h1'⟩ := mD_loop h1
    simp only [evC] at h
    split at h <;> try (cases h; done)
    rename_i x hx
    obtain ⟨u, h2, h3⟩ := Option.bind_eq_some_iff.1 h
    have key : VT P N (.loop b') (s.enc x).enc (fun e st' => ∃ ts', st' = ts'.enc ∧ ((∃ y, e = .exit id ∧ o.dec ts' = some y ∧ u = .inl y) ∨ (e = .ret ∧ ∃ r, fin ts' = some r ∧ u = .inr r))) := by
      refine loop_v (fun x => (s.enc x).enc) _ (fun rec x hs => ?_) fuel x h2
      refine VT.mono (evC_v hm hH b b' _ _ (s.enc x) _ u (fun ts r q e1 e2 => by simp only [e1, Option.map_some]; exact e2) h1' hs) (fun e st' hq => ?_)
      obtain ⟨ts', rfl, hq⟩ := hq
      cases e with
      | normal =>
        simp only at hq
        split at hq <;> try (cases hq; done)
        rename_i x' hx'
        exact ⟨_, ⟨x', rfl, hq⟩, fun B a w S fp hr => Shs.dec_v hx' hr⟩
      | exit j =>
        simp only [cond_if] at hq
        split at hq <;> try (cases hq; done)
        rename_i hj
        split at hq <;> try (cases hq; done)
        rename_i y hy
        cases hq
        exact ⟨_, ⟨ts', rfl, .inl ⟨y, by rw [Nat.eq_of_beq_eq_true hj], hy, rfl⟩⟩, fun _ _ _ _ _ h => h⟩
      | ret =>
        simp only at hq
        obtain ⟨r, h4, rfl⟩ := Option.map_eq_some_iff.1 hq
        exact ⟨_, ⟨ts', rfl, .inr ⟨rfl, r, h4, rfl⟩⟩, fun _ _ _ _ _ h => h⟩
      | _ => cases hq
    refine VT.pre (st0 := (s.enc x).enc) ?_ (fun B a w S fp hr => Shs.dec_v hx hr)
    intro B ac w S fp hr
    refine wp_block (wp_mono (key B ac w S fp hr) ?_)
    rintro e a2 w2 ⟨st2, S2, fp2, ⟨ts2, rfl, hq⟩, hr2⟩
    rcases hq with ⟨y, rfl, hy, rfl⟩ | ⟨rfl, r, hr', rfl⟩
    · simp only [Exit.inBlock, if_true]
      exact ⟨_, S2, fp2, ⟨_, rfl, h3⟩, Shs.dec_v hy hr2⟩
    · simp only [Exit.inBlock]
      exact ⟨_, S2, fp2, ⟨ts2, rfl, hkr _ _ _ hr' h3⟩, hr2⟩
end
end Go.Proofs.YtainknkfjekngaaDoor.Vm
