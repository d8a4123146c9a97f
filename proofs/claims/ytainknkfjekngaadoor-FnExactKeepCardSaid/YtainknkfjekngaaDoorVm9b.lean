/- More operations. -/
import Derived.Test.YtainknkfjekngaaDoorVm9
import Derived.Laws.Strings
import Derived.Laws.Strings2
import Derived.Laws.BytesString
namespace Go.Proofs.YtainknkfjekngaaDoor.Vm
open Go
set_option linter.unusedVariables false
set_option linter.unusedSimpArgs false

def ba (s : List UInt8) : ByteArray := ⟨s.toArray⟩

section
variable {P : Program} {B : Base P} {N : Nat} {st : St} {a : Act} {w : World} {S : CS} {fp : Nat → CS}

-- equality of flat structs

def eqv : Nat → Value → Value → Option Bool
  | 0, .int k a, .int k' b => if k = k' then some (a == b) else none
  | 1, .string a, .string b => some (a.toList == b.toList)
  | 2, .bool a, .bool b => some (a == b)
  | _, _, _ => none
def eqvL : List Nat → List Value → List Value → Option Bool
  | [], [], [] => some true
  | k :: ks, x :: xs, y :: ys => match eqv k x y, eqvL ks xs ys with
    | some a, some b => some (a && b)
    | _, _ => none
  | _, _, _ => none
def V.litL : V → Option (List Value)
  | .agg cs => go cs
  | .lit (.agg cs) => some cs.toList
  | _ => none
where go : List V → Option (List Value)
  | [] => some []
  | .lit v :: vs => (go vs).map (v :: ·)
  | _ => none

def kindOf (P : Program) (T : Nat) : Option Nat :=
  match P.underlying T with
  | some (.int _) => some 0
  | some .string => some 1
  | some .bool => some 2
  | _ => none
def flatF (P : Program) : Nat → List Field → Option (List Nat)
  | _, [] => some []
  | i, f :: fs => if f.name ≠ "_" ∧ f.offset = i then match kindOf P f.type, flatF P (i + 1) fs with
      | some k, some ks => some (k :: ks)
      | _, _ => none
    else none
def flatS (P : Program) (T : Nat) : Option (List Nat) :=
  match P.underlying T with
  | some (.struct fs) => if P.stoodInHeld T = false ∧ P.eqGuardType P.depth T = false then flatF P 0 fs.toList else none
  | _ => none

theorem litL_go {w : World} {S : CS} {A : AlSem} : ∀ {cs : List V} {us : List Value} {F : CS} {l : List Value}, RL w S A cs us F → V.litL.go cs = some l → us = l
  | [], us, F, l, h, hl => by simp [V.litL.go] at hl; simp [RL] at h; simp [h, hl]
  | v :: vs, us, F, l, h, hl => by
    obtain ⟨u, ur, F1, F2, rfl, l1, l2, d, hv, hr⟩ := h
    cases v with
    | lit x =>
      simp only [V.litL.go] at hl
      obtain ⟨l', hl', rfl⟩ := Option.map_eq_some_iff.1 hl
      simp only [RV] at hv
      rw [hv, litL_go hr hl']
    | _ => simp [V.litL.go] at hl
theorem litL_spec {w : World} {S : CS} {A : AlSem} {v : V} {u : Value} {F : CS} {l : List Value} (h : RV w S A v u F) (hl : v.litL = some l) : u = .agg l.toArray := by
  cases v with
  | agg cs =>
    obtain ⟨us, rfl, hr⟩ := h
    rw [litL_go hr hl]
  | lit x =>
    cases x with
    | agg cs => simp only [V.litL, Option.some.injEq] at hl; subst hl; simp only [RV] at h; simp [h]
    | _ => simp [V.litL] at hl
  | _ => simp [V.litL] at hl

theorem flatF_len : ∀ (fs : List Field) (i : Nat) (ks : List Nat), flatF P i fs = some ks → ks.length = fs.length
  | [], _, ks, h => by simp [flatF] at h; simp [← h]
  | f :: fs, i, ks, h => by
    simp only [flatF] at h
    split at h
    · split at h
      · rename_i k ks' hk hks
        obtain rfl := Option.some.inj h
        simp [flatF_len fs _ _ hks]
      · cases h
    · cases h
theorem eqvL_len : ∀ (ks : List Nat) (xs ys : List Value) (b : Bool), eqvL ks xs ys = some b → xs.length = ks.length ∧ ys.length = ks.length
  | [], [], [], _, _ => ⟨rfl, rfl⟩
  | k :: ks, x :: xs, y :: ys, b, h => by
    simp only [eqvL] at h
    split at h
    · rename_i r1 r2 h1 h2
      have := eqvL_len ks xs ys _ h2
      simp [this.1, this.2]
    · cases h
  | [], _ :: _, _, _, h => by simp [eqvL] at h
  | [], [], _ :: _, _, h => by simp [eqvL] at h
  | _ :: _, [], _, _, h => by simp [eqvL] at h
  | _ :: _, _ :: _, [], _, h => by simp [eqvL] at h

theorem eqv_run (d : Nat) (w : World) {T k : Nat} {x y : Value} {r : Bool} (hk : kindOf P T = some k) (he : eqv k x y = some r) : (Op.equalIn (d + 1) T x y).run P w = .ok r w := by
  unfold kindOf at hk
  split at hk
  · rename_i k' hu
    obtain rfl := Option.some.inj hk
    cases x <;> cases y <;> simp only [eqv, reduceCtorEq] at he
    rename_i k1 a k2 b
    by_cases h : k1 = k2
    · subst h
      simp only [if_true, Option.some.injEq] at he
      rw [← he]; exact run_equalIn_int w d T k1 k' a b hu
    · simp [h] at he
  · rename_i hu
    obtain rfl := Option.some.inj hk
    cases x <;> cases y <;> simp only [eqv, reduceCtorEq, Option.some.injEq] at he
    rw [← he]; exact run_equalIn_string w d T _ _ hu
  · rename_i hu
    obtain rfl := Option.some.inj hk
    cases x <;> cases y <;> simp only [eqv, reduceCtorEq, Option.some.injEq] at he
    rw [← he]; exact run_equalIn_bool' w d T _ _ hu
  · cases hk

theorem run_eqFields (d : Nat) (w : World) : ∀ (fs : List Field) (i : Nat) (ks : List Nat) (xs ys : Array Value) (b : Bool), flatF P i fs = some ks → eqvL ks (xs.toList.drop i) (ys.toList.drop i) = some b →
    (Op.eqFields (d + 1) xs ys fs).run P w = .ok b w
  | [], i, ks, xs, ys, b, hk, hb => by
    simp only [flatF, Option.some.injEq] at hk
    subst hk
    cases hx : xs.toList.drop i with
    | nil =>
      cases hy : ys.toList.drop i with
      | nil => rw [hx, hy] at hb; simp only [eqvL, Option.some.injEq] at hb; simp [Op.eqFields, hb]
      | cons y l => rw [hx, hy] at hb; simp [eqvL] at hb
    | cons x l => rw [hx] at hb; simp [eqvL] at hb
  | f :: fs, i, ks, xs, ys, b, hk, hb => by
    simp only [flatF] at hk
    split at hk
    · rename_i hf
      obtain ⟨hn, ho⟩ := hf
      split at hk
      · rename_i k ks' hk1 hks
        obtain rfl := Option.some.inj hk
        have hlen := eqvL_len _ _ _ _ hb
        have hx : i < xs.size := by have := hlen.1; simp at this; omega
        have hy : i < ys.size := by have := hlen.2; simp at this; omega
        rw [List.drop_eq_getElem_cons (l := xs.toList) (by simpa using hx), List.drop_eq_getElem_cons (l := ys.toList) (by simpa using hy)] at hb
        simp only [eqvL, Array.getElem_toList] at hb
        split at hb
        · rename_i r1 r2 he hr
          have hagg : isAggB P f.type = some false := by
            unfold kindOf at hk1
            unfold isAggB
            split at hk1 <;> first | (rename_i hu; simp [hu]; done) | cases hk1
          have hp : ∀ zs : Array Value, ∀ hz : i < zs.size, (part f.type zs f.offset).run P w = .ok zs[i] w := fun zs hz => by
            rw [ho]; simp [part, run_isAgg' hagg, hz]
          have hq : (Op.equalIn (d + 1) f.type xs[i] ys[i]).run P w = .ok r1 w := by
            exact eqv_run d w hk1 he
          simp only [Op.eqFields, if_pos hn, Sem.run_bind, hp xs hx, hp ys hy, Result.andThen, hq]
          cases r1 with
          | false => simp at hb; simp [hb]
          | true =>
            simp only [Bool.true_and, Option.some.injEq] at hb
            subst hb
            have := run_eqFields d w fs (i + 1) ks' xs ys r2 hks hr
            simpa using this
        · cases hb
      · cases hk
    · cases hk
theorem ot_eqA {o : Oper} {d n T ty : Nat} {neg : Bool} {x y : Operand} {x' y' : XO} {ks : List Nat} {l1 l2 : List Value} {b : Bool} {K : St → Prop} (ho : o.op = .binOp (if neg then .neq else .eql) T x y ty) (hd : o.dst = some d) (hdN : d < N)
    (hx : cO n x = some x') (hy : cO n y = some y') (hT : flatS P T = some ks) (h1 : (st.val x').litL = some l1) (h2 : (st.val y').litL = some l2) (he : eqvL ks l1 l2 = some b) (hk : K (st.put d (.lit (.bool (if neg then !b else b))))) : OT P N o st K :=
  ot_lit hd hdN (fun B ac w S fp hr => by
    have e1 := litL_spec (hr.val hx) h1
    have e2 := litL_spec (hr.val hy) h2
    unfold flatS at hT
    split at hT
    · rename_i fs hu
      split at hT
      · rename_i hg
        have hfo : P.fieldsOf T = fs := by simp [Program.fieldsOf, hu]
        have hrun : (Op.equalIn 10000 T (.agg l1.toArray) (.agg l2.toArray)).run P w = .ok b w := by
          rw [run_equalIn_agg w 9999 T _ _ (by rw [hfo]; exact hu) hg.1, hfo]
          exact run_eqFields 9998 w fs.toList 0 ks _ _ b hT (by simpa using he)
        simp only [execOp, ho, e1, e2]
        cases neg with
        | false =>
          simp only [Bool.false_eq_true, if_false, Sem.run_bind, run_eqGuard_agg w .eql T x y _ _ hg.2, Result.andThen, run_eql_struct, hrun]; rfl
        | true =>
          simp only [if_true, Sem.run_bind, run_eqGuard_agg w .neq T x y _ _ hg.2, Result.andThen, run_neq_struct, hrun]; rfl
      · cases hT
    · cases hT) hk

-- numbers turned into others

theorem ot_cvi {o : Oper} {d n s t : Nat} {k k' : IntKind} {x : Operand} {x' : XO} {z : Int} {K : St → Prop} (ho : o.op = .convert s t x) (hd : o.dst = some d) (hdN : d < N) (hs : P.underlying s = some (.int k')) (ht : P.underlying t = some (.int k))
    (hx : cO n x = some x') (h1 : st.val x' = .lit (.int k' z)) (hk : K (st.put d (.lit (.int k (k.wrap z))))) : OT P N o st K :=
  ot_lit hd hdN (fun B ac w S fp hr => by
    have hc : (convert s t (.int k' z)).run P w = .ok (.int k (k.wrap z)) w := by
      unfold convert
      rw [Sem.run_bind, run_underlying hs]; simp only [Result.andThen]
      rw [Sem.run_bind, run_underlying ht]; rfl
    simp only [execOp, ho, hr.lit hx h1, Sem.run_bind, hc]; rfl) hk

-- strings

theorem ot_idx {o : Oper} {d n m T : Nat} {k : IntKind} {x i : Operand} {x' i' : XO} {s : ByteArray} {z : Int} {K : St → Prop} (ho : o.op = .index T x i) (hd : o.dst = some d) (hdN : d < N) (hT : P.underlying T = some .string)
    (hx : cO n x = some x') (hi : cO m i = some i') (h1 : st.val x' = .lit (.string s)) (h2 : st.val i' = .lit (.int k z)) (h0 : 0 ≤ z ∧ z < s.size) (hk : K (st.put d (.lit (.int .u8 (s.toList.getD z.toNat 0).toNat)))) : OT P N o st K :=
  ot_lit hd hdN (fun B ac w S fp hr => by
    have hlt : z.toNat < s.size := by have h3 := h0.1; have h4 := h0.2; omega
    have he : s.toList.getD z.toNat 0 = s[z.toNat] := by
      rw [ByteArray.toList_eq, List.getD_eq_getElem?_getD]
      have : z.toNat < s.data.toList.length := hlt
      rw [List.getElem?_eq_getElem this]; rfl
    simp only [execOp, ho, hr.lit hx h1, hr.lit hi h2, Sem.run_bind, run_index_string w T s k z hT, h0, and_self, dif_pos, Result.andThen, he]
    rfl) hk

/-- The bounds of a cut. -/
def bnd (n : Nat) (dflt : Nat) : Option V → Option Nat
  | none => some dflt
  | some (.lit (.int _ z)) => if 0 ≤ z ∧ z ≤ n then some z.toNat else none
  | _ => none

theorem ot_slc_str {o : Oper} {d n T : Nat} {x : Operand} {x' : XO} {lo hi : Option Operand} {lo' hi' : Option XO} {s : ByteArray} {l h : Nat} {K : St → Prop} (ho : o.op = .slice T x lo hi none) (hd : o.dst = some d) (hdN : d < N) (hT : P.underlying T = some .string)
    (hx : cO n x = some x') (hlo : ∀ y, lo = some y → ∃ y', lo' = some y' ∧ cO 0 y = some y') (hlo0 : lo = none → lo' = none) (hhi : ∀ y, hi = some y → ∃ y', hi' = some y' ∧ cO 0 y = some y') (hhi0 : hi = none → hi' = none)
    (h1 : st.val x' = .lit (.string s)) (h2 : bnd s.size s.size (hi'.map st.val) = some h) (h3 : bnd h 0 (lo'.map st.val) = some l) (hk : K (st.put d (.lit (.string (s.extract l h))))) : OT P N o st K :=
  ot_lit hd hdN (fun B ac w S fp hr => by
    have hb : ∀ (y : Operand) (y' : XO) (n dflt r : Nat) (c : BoundsCode), cO 0 y = some y' → bnd n dflt (some (st.val y')) = some r → (Instr.sliceBound (ac.eval y) n c).run P w = .ok r w := by
      intro y y' n dflt r c hy hb
      unfold bnd at hb
      split at hb
      · rename_i h; cases h
      · rename_i k z h
        have hz := hr.lit hy (Option.some.inj h)
        split at hb
        · rename_i hz0
          obtain rfl := Option.some.inj hb
          simp [Instr.sliceBound, hz, asIntOf, hz0]
        · cases hb
      · cases hb
    have hbs : (Instr.sliceBounds false s.size s.size (lo.map ac.eval) (hi.map ac.eval) none).run P w = .ok (l, h, s.size) w := by
      cases hi with
      | none =>
        have := hhi0 rfl; subst this
        simp only [Option.map_none, bnd, Option.some.injEq] at h2
        subst h2
        cases lo with
        | none =>
          have := hlo0 rfl; subst this
          simp only [Option.map_none, bnd, Option.some.injEq] at h3
          subst h3
          simp [Instr.sliceBounds]
        | some y =>
          obtain ⟨y', rfl, hy⟩ := hlo y rfl
          have := hb y y' _ _ _ .sliceB hy h3
          simp [Instr.sliceBounds, this]
      | some z =>
        obtain ⟨z', rfl, hz⟩ := hhi z rfl
        have hz1 := hb z z' _ _ _ .sliceAlen hz h2
        cases lo with
        | none =>
          have := hlo0 rfl; subst this
          simp only [Option.map_none, bnd, Option.some.injEq] at h3
          subst h3
          simp [Instr.sliceBounds, hz1]
        | some y =>
          obtain ⟨y', rfl, hy⟩ := hlo y rfl
          have := hb y y' _ _ _ .sliceB hy h3
          simp [Instr.sliceBounds, hz1, this]
    simp only [execOp, ho, hr.lit hx h1, Sem.run_bind]
    simp [Instr.sliceAt, run_underlying hT, Instr.slice, hbs]) hk
end
end Go.Proofs.YtainknkfjekngaaDoor.Vm
