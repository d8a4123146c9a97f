/- The operations, one by one: what they do to the machine's frame. -/
import Derived.Test.YtainknkfjekngaaDoorVm2
import Derived.Laws.Small
import Derived.Laws.StructEq
namespace Go.Proofs.YtainknkfjekngaaDoor.Vm
open Go
set_option linter.unusedVariables false
set_option linter.unusedSimpArgs false

/-- What an operation owes: whatever frame and memory it is met in, it goes on in one of which K holds. -/
def OT (P : Program) (N : Nat) (o : Oper) (st : St) (K : St → Prop) : Prop :=
  ∀ (B : Base P) (a : Act) (w : World) (S : CS) (fp : Nat → CS) (next : Act → World → Prop) (Q : Exit → Act → World → Prop), Rl B N st a w S fp →
    (∀ st' a' w' S' fp', K st' → Rl B N st' a' w' S' fp' → next a' w') → o.wp P a w next Q

theorem OT.mono {P : Program} {N : Nat} {o : Oper} {st : St} {K K' : St → Prop} (h : OT P N o st K) (hk : ∀ st, K st → K' st) : OT P N o st K' :=
  fun B a w S fp next Q hr hn => h B a w S fp next Q hr (fun st' a' w' S' fp' k => hn st' a' w' S' fp' (hk _ k))

/-- Operands. -/
inductive XO where
  | t (n : Nat)
  | c (v : Value)
  | nil (n : Nat)
def St.val (st : St) : XO → V
  | .t n => (st n).v
  | .c v => .lit v
  | .nil n => .sl true n []
def cO (n : Nat) : Operand → Option XO
  | .tmp t => some (.t t)
  | .const (.slice none 0 0) => some (.nil n)
  | .const v => some (.c v)
  | .func f => some (.c (.func (.func f) #[] #[]))
  | .global _ => none
def fpx (fp : Nat → CS) : XO → CS
  | .t n => fp n
  | _ => CS.none

section
variable {P : Program} {B : Base P} {N : Nat} {st : St} {a : Act} {w : World} {S : CS} {fp : Nat → CS}

theorem Rl.val (h : Rl B N st a w S fp) {n : Nat} {x : Operand} {y : XO} (hc : cO n x = some y) : RV w S (AlOk w a st) (st.val y) (a.eval x) (fpx fp y) := by
  unfold cO at hc
  split at hc
  · obtain rfl := Option.some.inj hc
    exact h.rv _
  · obtain rfl := Option.some.inj hc
    exact ⟨none, 0, rfl, ⟨Nat.le_refl _, by decide⟩, .inr (.inl ⟨rfl, rfl, rfl⟩)⟩
  · obtain rfl := Option.some.inj hc
    simp [St.val, RV, Act.eval]
  · obtain rfl := Option.some.inj hc
    simp [St.val, RV, Act.eval]
  · cases hc

theorem Rl.fpx_lt (h : Rl B N st a w S fp) (y : XO) : ∀ b x, fpx fp y b x → b < w.heap.size := by
  cases y <;> first | exact h.lt _ | exact fun _ _ h => h.elim

/-- An operation that yields a value, memory untouched. -/
theorem OT.value {o : Oper} {d : Nat} {K : St → Prop} (V0 : V) (hd : o.dst = some d) (hdN : d < N) (hcp : V0.cp = true)
    (hrun : ∀ (B : Base P) a w S fp, Rl B N st a w S fp → ∃ v F, (execOp a.eval o).run P w = .ok (.value v) w ∧ RV w S (AlOk w a st) V0 v F) (hk : K (st.put d V0)) : OT P N o st K := by
  intro B a w S fp next Q hr hn
  obtain ⟨v, F, hv, hrv⟩ := hrun B a w S fp hr
  unfold Oper.wp
  rw [hv]
  show next (a.put o.dst v) w
  rw [hd]
  exact hn _ _ _ _ _ hk (hr.put_cp d V0 v F hdN hrv hcp)

theorem fp_sum (fp : Nat → CS) (r d : Nat) : (fun i => if i = d then fp r else if i = r then CS.none else fp i) = fun i => if i = d then fp r else (if i = r then CS.none else fp i) := rfl

/-- A value is taken from a temporary and given to another. -/
theorem OT.take {o : Oper} {d r : Nat} {K : St → Prop} (V0 : V) (hd : o.dst = some d) (hdN : d < N)
    (hrun : ∀ (B : Base P) a w S fp, Rl B N st a w S fp → ∃ v, (execOp a.eval o).run P w = .ok (.value v) w ∧ (RV w S (AlOk w a st) (st r).v (tm a r) (fp r) → RV w S (AlOk w a st) V0 v (fp r))) (hk : K ((st.put r .hole).put d V0)) : OT P N o st K := by
  intro B a w S fp next Q hr hn
  obtain ⟨v, hv, hrv⟩ := hrun B a w S fp hr
  unfold Oper.wp
  rw [hv]
  show next (a.put o.dst v) w
  rw [hd]
  have h1 := hr.drop r
  have hA : ∀ x u, AlOk w a st x u → AlOk w a (st.put r .hole) x u := by
    intro x u ⟨h1, h2, h3⟩
    by_cases e : x.root = r
    · refine ⟨?_, ?_, ?_⟩ <;> simp only [St.put, e, if_true] at *
      · omega
      · omega
      · intro e1; omega
    · refine ⟨?_, ?_, ?_⟩ <;> simp only [St.put, e, if_false]
      · exact h1
      · exact h2
      · exact h3
  refine hn _ _ _ _ _ hk (h1.put d V0 v (fp r) hdN (RV.frame (CS.le.refl _) hA (Agree.refl _ _) _ _ _ _ (CS.le.refl _) (Agree.refl _ _) (hrv (hr.rv r))) (fun i hi => ?_) (hr.djS r) (hr.lt r) (hr.own r))
  by_cases e : i = r
  · simp only [e, if_true]; exact (CS.none_dj _).symm
  · simp only [e, if_false]; exact hr.dj r i (Ne.symm e)

-- plain moves

theorem ot_move_cp {o : Oper} {d n : Nat} {x : Operand} {y : XO} {K : St → Prop} (ho : o.op = .move x ∨ o.op = .assign x) (hd : o.dst = some d) (hdN : d < N) (hx : cO n x = some y)
    (hc : (st.val y).cp = true) (hk : K (st.put d (st.val y))) : OT P N o st K :=
  OT.value _ hd hdN hc (fun B a w S fp hr => ⟨a.eval x, _, by rcases ho with h | h <;> simp [execOp, h], hr.val hx⟩) hk

theorem ot_move_tk {o : Oper} {d r n : Nat} {K : St → Prop} (ho : o.op = .move (.tmp r) ∨ o.op = .assign (.tmp r)) (hd : o.dst = some d) (hdN : d < N)
    (hk : K ((st.put r .hole).put d (st r).v)) : OT P N o st K :=
  OT.take _ hd hdN (fun B a w S fp hr => ⟨tm a r, by rcases ho with h | h <;> simp [execOp, h, Act.eval, tm], fun h => h⟩) hk

/-- The name of what a temporary owns. -/
def St.name (st : St) (r : Nat) : Option V :=
  match (st r).v with
  | .box _ => some (.al ⟨true, r, [(0, 0)], (st r).ver, (st r).hv⟩)
  | .sl true _ _ => some (.al ⟨false, r, [], (st r).ver, (st r).hv⟩)
  | .bld _ _ _ => some (.al ⟨false, r, [], (st r).ver, (st r).hv⟩)
  | _ => none

theorem Rl.name (h : Rl B N st a w S fp) {r : Nat} {V0 : V} (hn : st.name r = some V0) (F : CS) : RV w S (AlOk w a st) V0 (tm a r) F := by
  unfold St.name at hn
  split at hn
  · rename_i cs hv
    obtain rfl := Option.some.inj hn
    have := h.rv r
    rw [hv] at this
    obtain ⟨b, o, us, hu, hc, hr⟩ := this
    refine ⟨Nat.le_refl _, Nat.le_refl _, fun _ _ _ => ?_⟩
    simp only [hv]
    exact ⟨b, o, by simp [addr, V.place, hu, ptrOf, Al.pth, Al.bx], hu⟩
  · obtain rfl := Option.some.inj hn
    exact ⟨Nat.le_refl _, Nat.le_refl _, fun _ _ _ => rfl⟩
  · obtain rfl := Option.some.inj hn
    exact ⟨Nat.le_refl _, Nat.le_refl _, fun _ _ _ => rfl⟩
  · cases hn

theorem name_cp {r : Nat} {V0 : V} (hn : st.name r = some V0) : V0.cp = true := by
  unfold St.name at hn
  split at hn <;> first | (obtain rfl := Option.some.inj hn; simp [V.cp]; done) | cases hn

theorem ot_move_al {o : Oper} {d r : Nat} {V0 : V} {K : St → Prop} (ho : o.op = .move (.tmp r) ∨ o.op = .assign (.tmp r)) (hd : o.dst = some d) (hdN : d < N)
    (hn : st.name r = some V0) (hk : K (st.put d V0)) : OT P N o st K :=
  OT.value _ hd hdN (name_cp hn) (fun B a w S fp hr => ⟨tm a r, CS.none, by rcases ho with h | h <;> simp [execOp, h, Act.eval, tm], hr.name hn _⟩) hk

/-- The name of a box that was given, without a look at it. -/
def nameP (r : Nat) : V := .al ⟨true, r, [], 0, 0⟩
theorem Rl.nameP (h : Rl B N st a w S fp) (r : Nat) (F : CS) : RV w S (AlOk w a st) (nameP r) (tm a r) F := by
  refine ⟨Nat.zero_le _, Nat.zero_le _, fun _ _ hb => ?_⟩
  have hb : (st r).v.isBx = true := hb.1 rfl
  have := h.rv r
  cases hv : (st r).v <;> (try (rw [hv] at hb; simp [V.isBx, V.place, hdrOf] at hb; done))
  rename_i cs
  rw [hv] at this
  obtain ⟨b, o, us, hu, hc, hr⟩ := this
  simp only [hv]
  exact ⟨b, o, by simp [addr, V.place, hu, ptrOf, Al.pth, Al.bx], hu⟩

theorem ot_move_nm {o : Oper} {d r : Nat} {K : St → Prop} (ho : o.op = .move (.tmp r) ∨ o.op = .assign (.tmp r)) (hd : o.dst = some d) (hdN : d < N)
    (hk : K (st.put d (nameP r))) : OT P N o st K :=
  OT.value _ hd hdN rfl (fun B a w S fp hr => ⟨tm a r, CS.none, by rcases ho with h | h <;> simp [execOp, h, Act.eval, tm], hr.nameP r _⟩) hk

theorem ot_pick {o : Oper} {d n : Nat} {x y z : Operand} {x' y' z' : XO} {b : Bool} {K : St → Prop} (ho : o.op = .pick x y z) (hd : o.dst = some d) (hdN : d < N)
    (hx : cO n x = some x') (hy : cO n y = some y') (hz : cO n z = some z') (hb : st.val x' = .lit (.bool b)) (hc1 : b = true → (st.val y').cp = true) (hc2 : b = false → (st.val z').cp = true)
    (hk : K (st.put d (if b then st.val y' else st.val z'))) : OT P N o st K :=
  OT.value _ hd hdN (by cases b <;> simp_all) (fun B a w S fp hr => by
    have h1 := hr.val hx
    rw [hb] at h1
    cases b with
    | true => exact ⟨a.eval y, _, by simp [execOp, ho, h1.symm ▸ h1, show a.eval x = .bool true from h1, asBool], hr.val hy⟩
    | false => exact ⟨a.eval z, _, by simp [execOp, ho, show a.eval x = .bool false from h1, asBool], hr.val hz⟩) hk

-- scalars: any operation on values without memory

theorem ot_lit {o : Oper} {d : Nat} {v : Value} {K : St → Prop} (hd : o.dst = some d) (hdN : d < N)
    (hrun : ∀ (B : Base P) a w S fp, Rl B N st a w S fp → (execOp a.eval o).run P w = .ok (.value v) w) (hk : K (st.put d (.lit v))) : OT P N o st K :=
  OT.value (.lit v) hd hdN rfl (fun B a w S fp hr => ⟨v, CS.none, hrun B a w S fp hr, rfl⟩) hk

theorem Rl.lit (h : Rl B N st a w S fp) {n : Nat} {x : Operand} {y : XO} {v : Value} (hc : cO n x = some y) (hv : st.val y = .lit v) : a.eval x = v := by
  have := h.val hc; rw [hv] at this; exact this

/-- What a comparison or a sum of two plain values is. -/
def binI (op : BinOp) (k : IntKind) (a b : Int) : Option Value :=
  match op with
  | .add => some (.int k (k.wrap (a + b)))
  | .sub => some (.int k (k.wrap (a - b)))
  | .mul => some (.int k (k.wrap (a * b)))
  | .quo => if b = 0 then none else some (.int k (k.wrap (a.tdiv b)))
  | .rem => if b = 0 then none else some (.int k (a.tmod b))
  | .and => some (.int k (k.wrap (BitVec.ofInt k.bits a &&& BitVec.ofInt k.bits b).toNat))
  | .or => some (.int k (k.wrap (BitVec.ofInt k.bits a ||| BitVec.ofInt k.bits b).toNat))
  | .xor => some (.int k (k.wrap (BitVec.ofInt k.bits a ^^^ BitVec.ofInt k.bits b).toNat))
  | .eql => some (.bool (a == b))
  | .neq => some (.bool (a != b))
  | .lss => some (.bool (decide (a < b)))
  | .leq => some (.bool (decide (a ≤ b)))
  | .gtr => some (.bool (decide (a > b)))
  | .geq => some (.bool (decide (a ≥ b)))
  | _ => none
def binH (op : BinOp) (k : IntKind) (a b : Int) : Option Value :=
  match op with
  | .shl => if b < 0 then none else some (.int k (k.wrap (a * 2 ^ (min b.toNat k.bits))))
  | .shr => if b < 0 then none else some (.int k (a.fdiv (2 ^ (min b.toNat k.bits))))
  | _ => none
def binS (op : BinOp) (a b : ByteArray) : Option Value :=
  match op with
  | .add => if ((a.size + b.size : Nat) : Int) > IntKind.i64.max then none else some (.string (a ++ b))
  | .eql => some (.bool (a.toList == b.toList))
  | .neq => some (.bool !(a.toList == b.toList))
  | .lss => some (.bool (Op.bytesLess a.toList b.toList))
  | .leq => some (.bool (Op.bytesLess a.toList b.toList || a.toList == b.toList))
  | .gtr => some (.bool !(Op.bytesLess a.toList b.toList || a.toList == b.toList))
  | .geq => some (.bool !(Op.bytesLess a.toList b.toList))
  | _ => none
def binB (op : BinOp) (a b : Bool) : Option Value :=
  match op with
  | .eql => some (.bool (a == b))
  | .neq => some (.bool (a != b))
  | _ => none
def isSh : BinOp → Bool
  | .shl | .shr => true
  | _ => false
def binV (bt : Bool) (op : BinOp) (x y : Value) : Option Value :=
  match x, y with
  | .int k a, .int k' b => if isSh op then binH op k a b else if k = k' then binI op k a b else none
  | .string a, .string b => binS op a b
  | .bool a, .bool b => if bt then binB op a b else none
  | _, _ => none

theorem run_binV (P : Program) (w : World) {bt : Bool} (op : BinOp) (t : TypeId) (x y : Operand) (a b v : Value) (h : binV bt op a b = some v) (hb : bt = true → P.underlying t = some .bool) :
    (do eqGuard op t x y a b; binOp op t a b : Sem Value).run P w = .ok v w := by
  unfold binV at h
  split at h
  · rename_i k a k' b
    have hg : (eqGuard op t x y (.int k a) (.int k' b)).run P w = .ok () w := by cases op <;> rfl
    rw [Sem.run_bind, hg]
    show (binOp op t (.int k a) (.int k' b)).run P w = .ok v w
    cases hs : isSh op with
    | true =>
      rw [hs] at h
      simp only [if_true] at h
      cases op <;> simp only [isSh, Bool.false_eq_true] at hs <;> simp only [binH] at h <;> by_cases hb0 : b < 0 <;> simp only [hb0, if_true, if_false, Option.some.injEq, reduceCtorEq] at h <;> subst h <;> simp [binOp, Op.shift, hb0]
    | false =>
      rw [hs] at h
      simp only [Bool.false_eq_true, if_false] at h
      by_cases hk : k = k'
      · subst hk
        simp only [if_true] at h
        cases op <;> simp only [isSh, Bool.true_eq_false, reduceCtorEq] at hs <;> simp only [binI, reduceCtorEq, Option.some.injEq] at h <;> first
          | (subst h; simp [binOp, Op.intArith, Op.intBits, Op.intCmp]; done)
          | (by_cases hb0 : b = 0 <;> simp only [hb0, if_true, if_false, Option.some.injEq, reduceCtorEq] at h <;> subst h <;> simp [binOp, Op.intDiv, hb0]; done)
          | (subst h; rfl)
      · simp [hk] at h
  · rename_i a b
    have hg : (eqGuard op t x y (.string a) (.string b)).run P w = .ok () w := by cases op <;> rfl
    rw [Sem.run_bind, hg]
    show (binOp op t (.string a) (.string b)).run P w = .ok v w
    cases op <;> simp only [binS, reduceCtorEq, Option.some.injEq] at h <;> first
      | (subst h; rfl)
      | (by_cases hb0 : ((a.size + b.size : Nat) : Int) > IntKind.i64.max <;> simp only [hb0, if_true, if_false, Option.some.injEq, reduceCtorEq] at h <;> subst h <;> simp only [binOp, Op.stringOp, hb0, if_false]; rfl)
  · rename_i c d
    cases bt with
    | false => simp at h
    | true =>
    simp only [if_true] at h
    have ht := hb rfl
    have hg : (eqGuard op t x y (.bool c) (.bool d)).run P w = .ok () w := by cases op <;> rfl
    rw [Sem.run_bind, hg]
    show (binOp op t (.bool c) (.bool d)).run P w = .ok v w
    have he := run_equal_bool (P := P) w t c d ht
    cases op <;> simp only [binB, reduceCtorEq, Option.some.injEq] at h <;> subst h <;> simp only [binOp, Sem.run_bind, he] <;> rfl
  · cases h

theorem ot_bin {o : Oper} {d n t ty : Nat} {bt : Bool} {op : BinOp} {x y : Operand} {x' y' : XO} {a b v : Value} {K : St → Prop} (ho : o.op = .binOp op t x y ty) (hd : o.dst = some d) (hdN : d < N)
    (hx : cO n x = some x') (hy : cO n y = some y') (h1 : st.val x' = .lit a) (h2 : st.val y' = .lit b) (hv : binV bt op a b = some v) (hb : bt = true → P.underlying t = some .bool)
    (hk : K (st.put d (.lit v))) : OT P N o st K :=
  ot_lit hd hdN (fun B ac w S fp hr => by
    have := run_binV P w op t x y a b v hv hb
    simp only [execOp, ho, hr.lit hx h1, hr.lit hy h2]
    rw [Sem.run_bind, this]; rfl) hk

def unV (op : UnOp) (x : Value) : Option Value :=
  match op, x with
  | .not, .bool b => some (.bool !b)
  | .neg, .int k n => some (.int k (k.wrap (0 - n)))
  | _, _ => none
theorem ot_un {o : Oper} {d n t : Nat} {op : UnOp} {x : Operand} {x' : XO} {a v : Value} {K : St → Prop} (ho : o.op = .unOp op t x) (hd : o.dst = some d) (hdN : d < N)
    (hx : cO n x = some x') (h1 : st.val x' = .lit a) (hv : unV op a = some v) (hk : K (st.put d (.lit v))) : OT P N o st K :=
  ot_lit hd hdN (fun B ac w S fp hr => by
    simp only [execOp, ho, hr.lit hx h1]
    unfold unV at hv
    split at hv <;> cases hv <;> simp [Op.unary, Op.intArith]) hk

end
end Go.Proofs.YtainknkfjekngaaDoor.Vm
