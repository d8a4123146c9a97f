/- Regions, branches, loops, functions. -/
import Derived.Test.YtainknkfjekngaaDoorVm10
namespace Go.Proofs.YtainknkfjekngaaDoor.Vm
open Go
set_option linter.unusedVariables false
set_option linter.unusedSimpArgs false

/-- An operation, with its guard. -/
inductive XG where
  | p (x : XOp)
  | g (t : Nat) (want : Bool) (d : Option Nat) (x : XOp)
def guardX (P : Program) (t : Nat) (want : Bool) (d : Option Nat) (x : XOp) (st : St) (K : St → Prop) : Prop :=
  match (st t).v with
  | .lit (.bool b) => (b = want → stepX P x st K) ∧ (b ≠ want → K (match d with | some d => st.put d (.lit undef) | none => st))
  | .lit _ => K (match d with | some d => st.put d (.lit undef) | none => st)
  | _ => False
def xg (P : Program) : XG → St → (St → Prop) → Prop
  | .p x, st, K => stepX P x st K
  | .g t want d x, st, K => guardX P t want d x st K
def xr (P : Program) : List XG → St → (St → Prop) → Prop
  | [], st, K => K st
  | x :: l, st, K => xg P x st fun st => xr P l st K

inductive XC where
  | skip
  | reg (ops : List XG)
  | seq (a b : XC)
  | cond (c : XO) (a b : XC)
  | block (id : Nat) (b : XC)
  | loop (b : XC)
  | exit (id : Nat)
  | ret

def condX (c : XO) (st : St) (a b : Prop) : Prop :=
  match st.val c with
  | .lit (.bool t) => (t = true → a) ∧ (t = false → b)
  | _ => False

def xc (P : Program) : XC → St → (Exit → St → Prop) → Prop
  | .skip, st, Q => Q .normal st
  | .reg ops, st, Q => xr P ops st (Q .normal)
  | .seq a b, st, Q => xc P a st fun e st => match e with
    | .normal => xc P b st Q
    | e => Q e st
  | .cond c a b, st, Q => condX c st (xc P a st Q) (xc P b st Q)
  | .block id b, st, Q => xc P b st fun e st => match e with
    | .exit j => if j = id then Q .normal st else Q (.exit j) st
    | e => Q e st
  | .loop b, st, Q => ∃ (I : St → Prop) (μ : St → Nat), I st ∧ ∀ st, I st → xc P b st fun e st' => match e with
    | .normal => I st' ∧ μ st' < μ st
    | e => Q e st'
  | .exit id, st, Q => Q (.exit id) st
  | .ret, st, Q => Q .ret st

abbrev Ann := List (Nat × Nat × Md)
def Ann.get (l : Ann) (r i : Nat) : Md := match l.find? fun x => x.1 == r && x.2.1 == i with
  | some x => x.2.2
  | none => .a

def mG (P : Program) (N : Nat) (ops : Array Oper) (md : Md) (o : Oper) : Option XG :=
  match mOp P N md o with
  | some x => match o.guard with
    | none => some (.p x)
    | some (j, want) => match (ops[j]?).bind (·.dst) with
      | some t => if t < N ∧ (∀ d, o.dst = some d → d < N) then some (.g t want o.dst x) else none
      | none => none
  | none => none
def mL (P : Program) (N : Nat) (ops : Array Oper) (an : Ann) (r : Nat) : Nat → List Oper → Option (List XG)
  | _, [] => some []
  | i, o :: l => match mG P N ops (an.get r i) o, mL P N ops an r (i + 1) l with
    | some x, some xs => some (x :: xs)
    | _, _ => none

def mC (P : Program) (N : Nat) (an : Ann) : Code → Option XC
  | .skip => some .skip
  | .region id ops draw => if draw then none else (mL P N ops an id 0 ops.toList).map .reg
  | .seq a b => match mC P N an a, mC P N an b with
    | some a, some b => some (.seq a b)
    | _, _ => none
  | .cond c a b => match cO 0 c, mC P N an a, mC P N an b with
    | some c, some a, some b => some (.cond c a b)
    | _, _, _ => none
  | .block id b => (mC P N an b).map (.block id)
  | .loop b => (mC P N an b).map .loop
  | .exit id => some (.exit id)
  | .ret => some .ret
  | _ => none

/-- What a piece of code owes. -/
def VT (P : Program) (N : Nat) (c : Code) (st : St) (Q : Exit → St → Prop) : Prop :=
  ∀ (B : Base P) (a : Act) (w : World) (S : CS) (fp : Nat → CS), Rl B N st a w S fp →
    c.wp P (fun e a' w' => ∃ st' S' fp', Q e st' ∧ Rl B N st' a' w' S' fp') a w

section
variable {P : Program} {N : Nat}

theorem yielded_lit {B : Base P} {st : St} {a : Act} {w : World} {S : CS} {fp : Nat → CS} (h : Rl B N st a w S fp) {ops : Array Oper} {j t : Nat} {v : Value} (ht : (ops[j]?).bind (·.dst) = some t) (htN : t < N) (hv : (st t).v = .lit v) :
    yielded ops a.tmps j = match v with | .bool b => some b | _ => none := by
  have h1 := h.rv t
  rw [hv] at h1
  have h2 : tm a t = v := h1
  have hs : t < a.tmps.size := by rw [h.size]; exact htN
  simp only [yielded, ht, Option.bind_some]
  have h3 : a.tmps[t]? = some v := by
    rw [Array.getElem?_eq_getElem hs]
    simp [tm, Array.getD, hs] at h2
    rw [h2]
  rw [h3]
  cases v <;> rfl

theorem mL_sound {ops : Array Oper} {an : Ann} {r : Nat} {Q : Exit → Act → World → Prop} {B : Base P} {K : St → Prop}
    (hK : ∀ st' a' w' S' fp', K st' → Rl B N st' a' w' S' fp' → Q .normal a' w') :
    ∀ (l : List Oper) (i n : Nat) (xl : List XG) (st : St) (a : Act) (w : World) (S : CS) (fp : Nat → CS), i + l.length = n → (∀ j, j < l.length → ops[i + j]? = l[j]?) → mL P N ops an r i l = some xl → xr P xl st K →
      Rl B N st a w S fp → wpOps P ops Q (List.range' i l.length) a w
  | [], i, n, xl, st, a, w, S, fp, _, _, hm, h, hr => by
    simp only [mL, Option.some.injEq] at hm; subst hm
    exact hK _ _ _ _ _ h hr
  | o :: l, i, n, xl, st, a, w, S, fp, hn, ho, hm, h, hr => by
    simp only [mL] at hm
    split at hm
    · rename_i x xs' hx hxs
      obtain rfl := Option.some.inj hm
      have ho0 : ops[i]? = some o := by simpa using ho 0 (by simp)
      have ih : ∀ st' a' w' S' fp', xr P xs' st' K → Rl B N st' a' w' S' fp' → wpOps P ops Q (List.range' (i + 1) l.length) a' w' := fun st' a' w' S' fp' h' hr' =>
        mL_sound hK l (i + 1) n xs' st' a' w' S' fp' (by simp at hn; omega) (fun j hj => by have := ho (j + 1) (by simp; omega); simpa [Nat.add_assoc, Nat.add_comm 1 j] using this) hxs h' hr'
      rw [List.length_cons, List.range'_succ]
      simp only [wpOps, ho0]
      have run : ∀ x, mOp P N (an.get r i) o = some x → stepX P x st (fun st => xr P xs' st K) → (o.wp P a w (wpOps P ops Q (List.range' (i + 1) l.length)) Q ∨ (o.asks P a w ∧ LetsOut Q)) := fun x hx h => .inl (mOp_sound hx h B a w S fp _ Q hr (fun st' a' w' S' fp' k hr' => ih st' a' w' S' fp' k hr'))
      unfold mG at hx
      split at hx
      · rename_i y hy
        split at hx
        · rename_i hg
          obtain rfl := Option.some.inj hx
          rw [if_pos (by simp [Region.wanted, hg])]
          exact run _ hy h
        · rename_i j want hg
          split at hx
          · rename_i t ht
            split at hx
            · rename_i htN
              obtain rfl := Option.some.inj hx
              simp only [xr, xg, guardX] at h
              have skip : xr P xs' (match o.dst with | some d => st.put d (.lit undef) | none => st) K → wpOps P ops Q (List.range' (i + 1) l.length) (a.put o.dst undef) w := by
                intro h2
                cases hd : o.dst with
                | none => rw [hd] at h2; exact ih _ _ _ _ _ h2 hr
                | some d =>
                  rw [hd] at h2
                  exact ih _ _ _ _ _ h2 (hr.put d (.lit undef) undef CS.none (htN.2 d hd) rfl (fun _ _ => CS.none_dj _) (CS.none_dj _) (fun _ _ h => h.elim) (fun _ _ h => h.elim))
              split at h
              · rename_i b hb
                have hyi := yielded_lit hr ht htN.1 hb
                by_cases hw : b = want
                · rw [if_pos (by simp [Region.wanted, hg, hyi, hw])]
                  exact run _ hy (h.1 hw)
                · rw [if_neg (by simp [Region.wanted, hg, hyi, hw])]
                  exact skip (h.2 hw)
              · rename_i v hv hnb
                have hyi := yielded_lit hr ht htN.1 hnb
                have hyn : yielded ops a.tmps j = none := by
                  rw [hyi]
                  cases v <;> first | rfl | exact absurd rfl (hv _)
                rw [if_neg (by simp [Region.wanted, hg, hyn])]
                exact skip h
              · exact h.elim
            · cases hx
          · cases hx
      · cases hx
    · cases hm


theorem exists_least (p : Nat → Prop) (h : ∃ n, p n) : ∃ n, p n ∧ ∀ m, p m → n ≤ m := by
  obtain ⟨n, hn⟩ := h
  induction n using Nat.strongRecOn with
  | _ n ih =>
    by_cases hx : ∃ m, m < n ∧ p m
    · obtain ⟨m, hm, hp⟩ := hx
      exact ih m hm hp
    · exact ⟨n, hn, fun m hp => Nat.le_of_not_lt (fun hlt => hx ⟨m, hlt, hp⟩)⟩

open Classical in
theorem VT.loop {c : Code} {st : St} {Q : Exit → St → Prop} (I : St → Prop) (μ : St → Nat) (h0 : I st) (hr : ∀ st, I st → VT P N c st (fun e st' => match e with | .normal => I st' ∧ μ st' < μ st | e => Q e st')) : VT P N (.loop c) st Q := by
  intro B a w S fp h
  let J : Nat → Act → World → Prop := fun n a w => ∃ st S fp, I st ∧ μ st = n ∧ Rl B N st a w S fp
  let m : Act → World → Nat := fun a w => if h : ∃ n, J n a w then Classical.choose (exists_least _ h) else 0
  refine wp_loop (fun a w => ∃ n, J n a w) m ⟨μ st, st, S, fp, h0, rfl, h⟩ ?_
  intro a w hJ
  have hm : m a w = Classical.choose (exists_least _ hJ) := dif_pos hJ
  obtain ⟨⟨st, S, fp, hI, hμ, hR⟩, _⟩ := Classical.choose_spec (exists_least _ hJ)
  refine wp_mono (hr st hI B a w S fp hR) ?_
  rintro e a' w' ⟨st', S', fp', hq, hR'⟩
  cases e with
  | normal =>
    refine ⟨⟨_, st', S', fp', hq.1, rfl, hR'⟩, ?_⟩
    have hJ' : ∃ n, J n a' w' := ⟨_, st', S', fp', hq.1, rfl, hR'⟩
    have h1 : m a' w' = Classical.choose (exists_least _ hJ') := dif_pos hJ'
    rw [h1, hm]
    have h2 := (Classical.choose_spec (exists_least _ hJ')).2 (μ st') ⟨st', S', fp', hq.1, rfl, hR'⟩
    omega
  | _ => exact ⟨st', S', fp', hq, hR'⟩

theorem mC_sound {an : Ann} : ∀ (c : Code) (x : XC) (st : St) (Q : Exit → St → Prop), mC P N an c = some x → xc P x st Q → VT P N c st Q
  | .skip, x, st, Q, hm, h => by
    simp only [mC, Option.some.injEq] at hm; subst hm
    exact fun B a w S fp hr => wp_skip ⟨st, S, fp, h, hr⟩
  | .region id ops draw, x, st, Q, hm, h => by
    simp only [mC] at hm
    split at hm
    · cases hm
    · rename_i hdr
      obtain ⟨xl, hx, rfl⟩ := Option.map_eq_some_iff.1 hm
      have hdr' : draw = false := by simpa using hdr
      subst hdr'
      intro B a w S fp hr
      refine wp_region ?_
      have := mL_sound (P := P) (N := N) (ops := ops) (an := an) (r := id) (Q := fun e a' w' => ∃ st' S' fp', Q e st' ∧ Rl B N st' a' w' S' fp') (B := B) (K := Q .normal) (fun st' a' w' S' fp' k hr' => ⟨st', S', fp', k, hr'⟩)
        ops.toList 0 ops.size xl st a w S fp (by simp) (fun j hj => by simp) hx h hr
      simpa [List.range_eq_range'] using this
  | .seq a b, x, st, Q, hm, h => by
    simp only [mC] at hm
    split at hm
    · rename_i a' b' ha hb
      obtain rfl := Option.some.inj hm
      intro B ac w S fp hr
      refine wp_seq (wp_mono (mC_sound a a' st _ ha h B ac w S fp hr) ?_)
      rintro e a2 w2 ⟨st2, S2, fp2, hq, hr2⟩
      cases e with
      | normal => exact mC_sound b b' st2 Q hb hq B a2 w2 S2 fp2 hr2
      | _ => exact ⟨st2, S2, fp2, hq, hr2⟩
    · cases hm
  | .cond c a b, x, st, Q, hm, h => by
    simp only [mC] at hm
    split at hm
    · rename_i c' a' b' hc ha hb
      obtain rfl := Option.some.inj hm
      simp only [xc, condX] at h
      split at h
      · rename_i t ht
        intro B ac w S fp hr
        have he := hr.lit hc ht
        exact wp_cond_split he (fun e => mC_sound a a' st Q ha (h.1 e) B ac w S fp hr) (fun e => mC_sound b b' st Q hb (h.2 e) B ac w S fp hr)
      · exact h.elim
    · cases hm
  | .block id b, x, st, Q, hm, h => by
    simp only [mC] at hm
    obtain ⟨b', hb, rfl⟩ := Option.map_eq_some_iff.1 hm
    intro B ac w S fp hr
    refine wp_block (wp_mono (mC_sound b b' st _ hb h B ac w S fp hr) ?_)
    rintro e a2 w2 ⟨st2, S2, fp2, hq, hr2⟩
    cases e with
    | exit j =>
      simp only [Exit.inBlock]
      simp only at hq
      split
      · rename_i e; rw [if_pos e] at hq; exact ⟨st2, S2, fp2, hq, hr2⟩
      · rename_i e; rw [if_neg e] at hq; exact ⟨st2, S2, fp2, hq, hr2⟩
    | _ => exact ⟨st2, S2, fp2, hq, hr2⟩
  | .loop b, x, st, Q, hm, h => by
    simp only [mC] at hm
    obtain ⟨b', hb, rfl⟩ := Option.map_eq_some_iff.1 hm
    obtain ⟨I, μ, h0, h1⟩ := h
    exact VT.loop I μ h0 (fun st hI => mC_sound b b' st _ hb (h1 st hI))
  | .exit id, x, st, Q, hm, h => by
    simp only [mC, Option.some.injEq] at hm; subst hm
    exact fun B a w S fp hr => wp_exit ⟨st, S, fp, h, hr⟩
  | .ret, x, st, Q, hm, h => by
    simp only [mC, Option.some.injEq] at hm; subst hm
    exact fun B a w S fp hr => wp_ret ⟨st, S, fp, h, hr⟩
  | .rangeFunc .., x, st, Q, hm, h => by simp [mC] at hm
  | .scope _, x, st, Q, hm, h => by simp [mC] at hm
  | .label _, x, st, Q, hm, h => by simp [mC] at hm
  | .goto _, x, st, Q, hm, h => by simp [mC] at hm
  | .refuse _, x, st, Q, hm, h => by simp [mC] at hm

-- functions

inductive XR where
  | t (n : Nat)
  | c (t n : Nat) (g : Bool)
def XR.tmp : XR → Nat
  | .t n => n
  | .c r _ _ => r

def resV (st : St) : List XR → Option (List V)
  | [] => some []
  | .t n :: l => (resV st l).map ((st n).v :: ·)
  | .c t n g :: l => match (st t).v with
    | .box cs => if cs.length = n then (resV st l).map (mkV g cs :: ·) else none
    | _ => none
def oneV : List V → V
  | [v] => v
  | vs => .tup vs

def mRes (P : Program) (np N : Nat) : List ResultVar → Option (List XR)
  | [] => some []
  | .tmp t :: l => if np ≤ t ∧ t < N then (mRes P np N l).map (.t t :: ·) else none
  | .cell t T :: l => match mLd P T with
    | some (n, g) => if np ≤ t ∧ t < N then (mRes P np N l).map (.c t n g :: ·) else none
    | none => none

structure XF where
  code : XC
  N : Nat
  np : Nat
  res : List XR

def mF (P : Program) (f : Nat) (an : Ann) : Option XF :=
  match P.funcs[f]? with
  | some fn => match fn.body with
    | some c => match mC P fn.ntmps an c, mRes P fn.params.size fn.ntmps fn.results.toList with
      | some x, some rs => if (rs.map XR.tmp).Nodup ∧ fn.params.size ≤ fn.ntmps ∧ fn.nfree = 0 then some ⟨x, fn.ntmps, fn.params.size, rs⟩ else none
      | _, _ => none
    | none => none
  | none => none

def St.init (args : List V) : St := fun i => ⟨args.getD i .hole, 0, 0⟩
def St.out (st : St) (i : Nat) : V := if (st i).ver = 0 ∧ (st i).v.na = true then (st i).v else .hole
def St.outs (st : St) (n : Nat) : List V := (List.range n).map st.out

/-- What holds at a function's end. -/
def XEnd (rs : List XR) (np : Nat) (R : V → List V → Prop) (e : Exit) (st : St) : Prop :=
  (e = .normal ∨ e = .ret) ∧ ∃ vs, resV st rs = some vs ∧ V.na.go vs = true ∧ R (oneV vs) (st.outs np)

/-- What a result variable yields. -/
def resF (tmps : Array Value) : ResultVar → Sem Value
  | .tmp t => pure (tmps.getD t undef)
  | .cell a t => do loadVar t (← asAddr (tmps.getD a undef))

theorem run_res {B : Base P} {st : St} {a : Act} {w : World} {S : CS} {fp : Nat → CS} {np : Nat} (h : Rl B N st a w S fp) : ∀ (l : List ResultVar) (rs : List XR) (vs : List V), mRes P np N l = some rs → resV st rs = some vs → (rs.map XR.tmp).Nodup →
    ∃ us, (l.mapM (resF a.tmps)).run P w = .ok us w ∧ us.length = l.length ∧ RL w S (AlOk w a st) vs us (fun b x => ∃ r ∈ rs, fp r.tmp b x) ∧ ∀ r ∈ rs, np ≤ r.tmp
  | [], rs, vs, hm, hv, _ => by
    simp only [mRes, Option.some.injEq] at hm; subst hm
    simp only [resV, Option.some.injEq] at hv; subst hv
    exact ⟨[], rfl, rfl, rfl, by simp⟩
  | .tmp t :: l, rs, vs, hm, hv, hnd => by
    simp only [mRes] at hm
    split at hm
    · rename_i htN
      obtain ⟨rs', hm', rfl⟩ := Option.map_eq_some_iff.1 hm
      simp only [resV] at hv
      obtain ⟨vs', hv', rfl⟩ := Option.map_eq_some_iff.1 hv
      simp only [List.map_cons, List.nodup_cons] at hnd
      obtain ⟨us, hrun, hl, hr, hnp⟩ := run_res h l rs' vs' hm' hv' hnd.2
      refine ⟨tm a t :: us, ?_, by simp [hl], ⟨_, _, fp t, fun b x => ∃ r ∈ rs', fp r.tmp b x, rfl, fun b x hx => ⟨.t t, by simp, hx⟩, fun b x ⟨r, hr, hx⟩ => ⟨r, by simp [hr], hx⟩, ?_, h.rv t, hr⟩, ?_⟩
      · rw [List.mapM_cons]
        simp only [Sem.run_bind, hrun, resF, Sem.run_pure, Result.andThen]
        rfl
      · rintro b x h1 ⟨r, hr, h2⟩
        exact h.dj t r.tmp (fun e => hnd.1 (by rw [show XR.tmp (.t t) = r.tmp from e]; exact List.mem_map_of_mem hr)) b x h1 h2
      · intro r hr
        rcases List.mem_cons.1 hr with rfl | hr
        · exact htN.1
        · exact hnp r hr
    · cases hm
  | .cell t T :: l, rs, vs, hm, hv, hnd => by
    simp only [mRes] at hm
    split at hm
    · rename_i n g hld
      split at hm
      · rename_i htN
        obtain ⟨rs', hm', rfl⟩ := Option.map_eq_some_iff.1 hm
        simp only [resV] at hv
        split at hv
        · rename_i cs hbx
          split at hv
          · rename_i hcl
            obtain ⟨vs', hv', rfl⟩ := Option.map_eq_some_iff.1 hv
            simp only [List.map_cons, List.nodup_cons] at hnd
            obtain ⟨us, hrun, hl, hr, hnp⟩ := run_res h l rs' vs' hm' hv' hnd.2
            have hb := h.rv t
            rw [hbx] at hb
            obtain ⟨b, o, ub, hu, hc, hrb⟩ := hb
            obtain ⟨hg, hi, hn, h1⟩ := mLd_spec hld
            have hbl := RL.length hrb
            have hload := run_loadVar hg hn h1 ub (by omega) w hi (fun j hj => (hc j (by omega)).2.1)
            refine ⟨(if g then .agg ub.toArray else ub.getD 0 undef) :: us, ?_, by simp [hl], ⟨_, _, fp t, fun b x => ∃ r ∈ rs', fp r.tmp b x, rfl, fun b x hx => ⟨.c t n g, by simp, hx⟩, fun b x ⟨r, hr, hx⟩ => ⟨r, by simp [hr], hx⟩, ?_, (rv_mkV hrb hcl h1).mono (CS.minus_le _ _), hr⟩, ?_⟩
            · rw [List.mapM_cons]
              have hq : a.tmps.getD t undef = .pointer (some ⟨b, o, none⟩) := hu
              have hld2 : (loadVar T ⟨b, o, none⟩).run P w = .ok (if g then .agg ub.toArray else ub.getD 0 undef) w := by
                simpa [Instr.loadAt, Instr.sureAddr] using hload
              simp only [Sem.run_bind, hrun, resF, hq, asAddr, Sem.run_pure, Result.andThen, hld2]
            · rintro b x h1 ⟨r, hr, h2⟩
              exact h.dj t r.tmp (fun e => hnd.1 (by rw [show XR.tmp (.c t n g) = r.tmp from e]; exact List.mem_map_of_mem hr)) b x h1 h2
            · intro r hr
              rcases List.mem_cons.1 hr with rfl | hr
              · exact htN.1
              · exact hnp r hr
          · cases hv
        · cases hv
      · cases hm
    · cases hm

theorem results_eq {fn : Func} {tmps : Array Value} {w : World} {us : List Value} (h : (fn.results.toList.mapM (resF tmps)).run P w = .ok us w) (hl : us.length = fn.results.toList.length) :
    (results fn tmps).run P w = .ok (if us.length = 1 then us.getD 0 undef else .tuple us.toArray) w := by
  unfold results
  have he : fn.results = fn.results.toList.toArray := by simp
  rw [he, List.mapM_toArray]
  simp only [Sem.run_bind, Sem.run_map]
  have key : ∀ f : ResultVar → Sem Value, (∀ r, f r = resF tmps r) → (fn.results.toList.mapM f).run P w = .ok us w := fun f hf => by rw [funext hf]; exact h
  rw [key _ (fun r => by cases r <;> rfl)]
  by_cases h1 : us.length = 1
  · match us, h1 with
    | [u], _ => simp [Result.andThen]
  · simp [Result.andThen, h1]

theorem outs_rl {B : Base P} {st : St} {a : Act} {w : World} {S : CS} {fp : Nat → CS} (h : Rl B N st a w S fp) : ∀ (n k : Nat), RL w S (AlOk w a st) ((List.range' k n).map st.out) ((List.range' k n).map B.t0) (fun b x => ∃ i, k ≤ i ∧ i < k + n ∧ fp i b x)
  | 0, k => rfl
  | n + 1, k => by
    rw [List.range'_succ, List.map_cons, List.map_cons]
    refine ⟨_, _, fp k, fun b x => ∃ i, k + 1 ≤ i ∧ i < k + 1 + n ∧ fp i b x, rfl, fun b x hx => ⟨k, by omega, by omega, hx⟩, fun b x ⟨i, h1, h2, h3⟩ => ⟨i, by omega, by omega, h3⟩, ?_, ?_, outs_rl h n (k + 1)⟩
    · rintro b x h1 ⟨i, h2, h3, h4⟩
      exact h.dj k i (by omega) b x h1 h4
    · unfold St.out
      split
      · rename_i hc
        rw [← h.keep k hc.1]; exact h.rv k
      · trivial

theorem outs_na (st : St) : ∀ l : List Nat, V.na.go (l.map st.out) = true
  | [] => rfl
  | i :: l => by
    simp only [List.map_cons, V.na.go, Bool.and_eq_true, outs_na st l, and_true]
    unfold St.out
    split
    · rename_i h; exact h.2
    · rfl

theorem init_fp {w : World} {S : CS} : ∀ (args : List V) (vals : List Value) (O : CS), RL w S A0 args vals O → ∃ fp : Nat → CS, (∀ i j, i ≠ j → (fp i).dj (fp j)) ∧ (∀ i, (fp i).le O) ∧ ∀ i, RV w S A0 (args.getD i .hole) (vals.getD i undef) (fp i)
  | [], vals, O, h => by
    refine ⟨fun _ => CS.none, fun _ _ _ => CS.none_dj _, fun _ => CS.none_le _, fun i => trivial⟩
  | v :: vs, _, O, h => by
    obtain ⟨u, ur, F1, F2, rfl, l1, l2, d, hv, hr⟩ := h
    obtain ⟨fp, h1, h2, h3⟩ := init_fp vs ur F2 hr
    refine ⟨fun i => match i with | 0 => F1 | i + 1 => fp i, ?_, ?_, ?_⟩
    · intro i j hij
      match i, j with
      | 0, 0 => exact absurd rfl hij
      | 0, j + 1 => exact d.mono (CS.le.refl _) (h2 j)
      | i + 1, 0 => exact (d.mono (CS.le.refl _) (h2 i)).symm
      | i + 1, j + 1 => exact h1 i j (fun e => hij (by rw [e]))
    · intro i
      match i with
      | 0 => exact l1
      | i + 1 => exact (h2 i).trans l2
    · intro i
      match i with
      | 0 => simpa using hv
      | i + 1 => simpa using h3 i

/-- THE RULE OF FUNCTIONS. -/
theorem Ok.ofVT {f np : Nat} {fn : Func} {c : Code} {rs : List XR} {args : List V} {R : V → List V → Prop} (hfn : P.funcs[f]? = some fn) (hbody : fn.body = some c) (hrs : mRes P np fn.ntmps fn.results.toList = some rs)
    (hnd : (rs.map XR.tmp).Nodup ∧ np ≤ fn.ntmps) (hp : args.length = np) (h : VT P fn.ntmps c (St.init args) (XEnd rs np R)) : Ok P f args R := by
  intro w S O vals htab hOS hO hS hrl
  have hvl := RL.length hrl
  refine calls_of_wp hfn hbody ?_
  obtain ⟨fp, hdj, hle, hrv⟩ := init_fp args vals O hrl
  let B : Base P := ⟨w, S, O, fun i => tm { tmps := vals.toArray ++ Array.replicate (fn.ntmps - vals.toArray.size) undef, defers := [] } i, htab, hOS⟩
  have htm : ∀ i, tm { tmps := vals.toArray ++ Array.replicate (fn.ntmps - vals.toArray.size) undef, defers := [] } i = vals.getD i undef := by
    intro i
    simp only [tm, Array.getD_eq_getD_getElem?, List.getD_eq_getElem?_getD]
    by_cases hi : i < vals.length
    · rw [Array.getElem?_append_left (by simpa using hi)]; simp
    · rw [Array.getElem?_append_right (by simp; omega)]
      rw [List.getElem?_eq_none (by omega)]
      simp only [Array.getElem?_replicate]
      split <;> rfl
  have hinit : Rl B fn.ntmps (St.init args) { tmps := vals.toArray ++ Array.replicate (fn.ntmps - vals.toArray.size) undef, defers := [] } w S fp := by
    refine ⟨by simp; omega, rfl, hdj, fun i => hOS.mono (hle i) (CS.le.refl _), fun i b x hx => hO b x (hle i b x hx), hS, fun i => ?_, Pres.refl _ _, CS.le.refl _, fun i b x hx => .inl (hle i b x hx), fun b x hx => .inl hx, fun i _ => rfl⟩
    rw [htm]
    exact RV.frame (CS.le.refl _) (fun _ _ h => h.elim) (Agree.refl _ _) _ _ _ _ (CS.le.refl _) (Agree.refl _ _) (hrv i)
  refine wp_mono (h B _ w S fp hinit) ?_
  rintro e a' w' ⟨st', S', fp', hq, hr'⟩
  obtain ⟨he, vs, hvs, hna, hR⟩ := hq
  obtain ⟨us, hrun, hul, hurl, hnp⟩ := run_res hr' fn.results.toList rs vs hrs hvs hnd.1
  have hres := results_eq hrun hul
  have hvl2 := RL.length hurl
  have hfin : a'.defers = [] ∧ ∃ v, (results fn a'.tmps).run P w' = .ok v w' ∧ Left w S O vals R (.returned v) w' := by
    refine ⟨hr'.defers, _, hres, ?_⟩
    refine ⟨_, oneV vs, st'.outs np, S', (fun b x => ∃ r ∈ rs, fp' r.tmp b x), (fun b x => ∃ i, 0 ≤ i ∧ i < 0 + np ∧ fp' i b x), rfl, hR, hr'.s0, ?_, ?_, ?_, ?_, ?_, hr'.pres, ?_, ?_⟩
    · rintro b x ⟨r, hr, h1⟩ ⟨i, _, h2, h3⟩
      have := hnp r hr
      exact hr'.dj r.tmp i (by omega) b x h1 h3
    · rintro b x ⟨r, hr, h1⟩ h2; exact hr'.djS _ b x h1 h2
    · rintro b x ⟨i, _, _, h1⟩ h2; exact hr'.djS _ b x h1 h2
    · have hurl' := RL.na (A' := A0) vs us _ hna hurl
      by_cases h1 : us.length = 1
      · rw [if_pos h1]
        obtain ⟨v, rfl⟩ := List.length_eq_one_iff.1 (show vs.length = 1 by omega)
        obtain ⟨u, rfl⟩ := List.length_eq_one_iff.1 h1
        obtain ⟨u', ur, F1, F2, heq, l1, l2, d, hv, hr⟩ := hurl'
        simp only [List.cons.injEq] at heq
        obtain ⟨rfl, rfl⟩ := heq
        exact hv.mono l1
      · rw [if_neg h1]
        match vs, hvl2, hurl' with
        | [], _, hurl' => exact ⟨us, rfl, hurl'⟩
        | [v], hvl2, _ => simp at hvl2; omega
        | v :: v2 :: vs, _, hurl' => exact ⟨us, rfl, hurl'⟩
    · have ho := RL.na (A' := A0) _ _ _ (outs_na st' _) (outs_rl hr' np 0)
      simp only [St.outs, List.range_eq_range']
      have hv0 : (List.range' 0 np).map B.t0 = vals := by

        apply List.ext_getElem (by simp; omega)
        intro i h1 h2
        simp only [List.getElem_map, List.getElem_range', B, htm, Nat.zero_add, Nat.one_mul]
        rw [List.getD_eq_getElem?_getD, List.getElem?_eq_getElem h2]; rfl
      rw [hv0] at ho; exact ho
    · intro b x hx
      rcases hx with ⟨r, _, hx⟩ | ⟨i, _, _, hx⟩
      · exact ⟨hr'.own _ b x hx, hr'.lt _ b x hx⟩
      · exact ⟨hr'.own _ b x hx, hr'.lt _ b x hx⟩
    · exact fun b x hx => ⟨hr'.shr b x hx, hr'.ltS b x hx⟩
  rcases he with rfl | rfl
  · exact hfin
  · exact hfin
theorem Ok.of {f : Nat} {an : Ann} {xf : XF} {args : List V} {R : V → List V → Prop} (hf : mF P f an = some xf) (hp : args.length = xf.np) (h : xc P xf.code (St.init args) (XEnd xf.res xf.np R)) : Ok P f args R := by
  unfold mF at hf
  split at hf
  · rename_i fn hfn
    split at hf
    · rename_i c hbody
      split at hf
      · rename_i x rs hx hrs
        split at hf
        · rename_i hnd
          obtain rfl := Option.some.inj hf
          exact Ok.ofVT hfn hbody hrs ⟨hnd.1, hnd.2.1⟩ hp (fun B a w S fp hr => mC_sound c x (St.init args) _ hx h B a w S fp hr)
        · cases hf
      · cases hf
    · cases hf
  · cases hf

end
end Go.Proofs.YtainknkfjekngaaDoor.Vm
