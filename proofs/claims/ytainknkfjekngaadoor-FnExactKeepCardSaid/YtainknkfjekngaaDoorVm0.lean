/- The values of the abstract machine and how they lie in memory. -/
import Derived.Below
import Derived.WalkKit
import Derived.RowKit3
import Derived.Laws.IdiomCopy
import Derived.Laws.AppendOwn
import Derived.Lib.Builder
import Derived.Lib.UnsafeStr
import Derived.Lib.LaidTab
import Derived.Lib.ItoaNum
namespace Go.Proofs.YtainknkfjekngaaDoor.Vm
open Go
set_option linter.unusedVariables false
set_option linter.unusedSimpArgs false

/-- Sets of cells: block, offset. -/
abbrev CS := Nat → Nat → Prop
def CS.dj (F G : CS) : Prop := ∀ b o, F b o → G b o → False
def CS.le (F G : CS) : Prop := ∀ b o, F b o → G b o
def CS.un (F G : CS) : CS := fun b o => F b o ∨ G b o
def CS.none : CS := fun _ _ => False
def CS.row (b o n : Nat) : CS := fun b' x => b' = b ∧ o ≤ x ∧ x < o + n
def CS.minus (F G : CS) : CS := fun b o => F b o ∧ ¬ G b o

theorem CS.dj.symm {F G : CS} (h : F.dj G) : G.dj F := fun b o hg hf => h b o hf hg
theorem CS.dj.mono {F G F' G' : CS} (h : F.dj G) (hf : F'.le F) (hg : G'.le G) : F'.dj G' := fun b o x y => h b o (hf b o x) (hg b o y)
theorem CS.le.refl (F : CS) : F.le F := fun _ _ h => h
theorem CS.le.trans {F G H : CS} (h : F.le G) (h' : G.le H) : F.le H := fun b o x => h' b o (h b o x)
theorem CS.none_le (F : CS) : CS.none.le F := fun _ _ h => h.elim
theorem CS.none_dj (F : CS) : CS.none.dj F := fun _ _ h _ => h.elim
theorem CS.minus_le (F G : CS) : (F.minus G).le F := fun _ _ h => h.1
theorem CS.minus_dj (F G : CS) : (F.minus G).dj G := fun _ _ h g => h.2 g
theorem CS.le_un_l (F G : CS) : F.le (F.un G) := fun _ _ h => .inl h
theorem CS.le_un_r (F G : CS) : G.le (F.un G) := fun _ _ h => .inr h
theorem CS.un_le {F G H : CS} (h : F.le H) (h' : G.le H) : (F.un G).le H := fun b o x => x.elim (h b o) (h' b o)
theorem CS.minus_mono {F F' G : CS} (h : F.le F') : (F.minus G).le (F'.minus G) := fun b o x => ⟨h b o x.1, x.2⟩

/-- A name of a place in what a temporary owns: the temporary, the way to it, and what its counts were. 'ptr': the place's address; else what the place holds. -/
structure Al where
  ptr : Bool
  root : Nat
  path : List (Nat × Nat)
  ver : Nat
  hv : Nat
  deriving DecidableEq

inductive V where
  | lit (v : Value)
  | hole
  | agg (cs : List V)
  | tup (cs : List V)
  | box (cs : List V)
  | sl (own : Bool) (n : Nat) (es : List (List V))
  | rp (cs : List V)
  | al (x : Al)
  | bld (T E : TypeId) (s : List UInt8)
  | fn (g : Nat) (cs : List V)
  | tl (x : Al) (n : Nat)
  deriving Inhabited

/-- How a value of the machine lies in memory: w the memory, S the cells that nobody writes, A what the names mean, F the cells that are its own. -/
abbrev AlSem := Al → Value → Prop

/-- A strings.Builder of one's own (its struct of type T in a block of its own; its bytes, of type E, too), and what was written into it. -/
def BldAt (w : World) (T E : TypeId) (s : List UInt8) (u : Value) (F : CS) : Prop :=
  ∃ (b : Nat) (p v : Value), u = .pointer (some ⟨b, 0, none⟩) ∧ (∀ x, F b x) ∧ (p = .pointer none ∨ p = u) ∧ w.heap[b]? = some (.cells #[p, v] T (0, 0)) ∧
    w.ownsRow 0 E 1 v s.length (Lib.byteCells s) ∧ v.ownBlock ≠ some b ∧ ∀ g, v.ownBlock = some g → ∀ x, F g x

/-- Plain memory: no cell of the block is frozen, nor marked behind its end. -/
def PlB (w : World) (b : Nat) : Prop := ∃ c t, w.heap[b]? = some (.cells c t (0, 0))
theorem PlB.frz {w : World} {b : Nat} (h : PlB w b) (x : Nat) : w.frozen? ⟨b, x, none⟩ = false := by
  obtain ⟨c, t, h⟩ := h
  simp [World.frozen?, h]
mutual
def RV (w : World) (S : CS) (A : AlSem) : V → Value → CS → Prop
  | .lit v, u, _ => u = v
  | .hole, _, _ => True
  | .agg cs, u, F => ∃ us : List Value, u = .agg us.toArray ∧ RL w S A cs us F
  | .tup cs, u, F => ∃ us : List Value, u = .tuple us.toArray ∧ RL w S A cs us F
  | .box cs, u, F => ∃ (b o : Nat) (us : List Value), u = .pointer (some ⟨b, o, none⟩) ∧
      (∀ k, k < cs.length → F b (o + k) ∧ w.cell? ⟨b, o + k, none⟩ = us[k]? ∧ w.frozen? ⟨b, o + k, none⟩ = false) ∧
      RL w S A cs us (F.minus (CS.row b o cs.length))
  | .sl own n es, u, F => ∃ (a : Option Addr) (cap : Nat), u = .slice a es.length cap ∧ (es.length ≤ cap ∧ cap ≤ 9223372036854775807) ∧
      ((es = [] ∧ own = false) ∨ (a = none ∧ es = [] ∧ cap = 0) ∨
       ∃ (b o : Nat) (uss : List (List Value)), a = some ⟨b, o, none⟩ ∧ (∀ e ∈ es, e.length = n) ∧
        (∀ i k, i < es.length → k < n → w.cell? ⟨b, o + (i * n + k), none⟩ = (uss[i]?.bind (·[k]?))) ∧
        (own = true → ∀ x, x < cap * n → F b (o + x) ∧ (w.cell? ⟨b, o + x, none⟩).isSome = true ∧ PlB w b) ∧
        (own = false → ∀ x, x < es.length * n → S b (o + x)) ∧
        RLL w S A es uss (if own then F.minus (CS.row b o (cap * n)) else CS.none))
  | .rp cs, u, _ => ∃ (b o : Nat) (us : List Value), u = .pointer (some ⟨b, o, none⟩) ∧
      (∀ k, k < cs.length → S b (o + k) ∧ w.cell? ⟨b, o + k, none⟩ = us[k]?) ∧ RL w S A cs us CS.none
  | .al x, u, _ => A x u
  | .bld T E s, u, F => BldAt w T E s u F
  | .fn g cs, u, F => ∃ us : List Value, u = .func (.func g) #[] us.toArray ∧ RL w S A cs us F
  | .tl x n, u, _ => ∃ (b o cap : Nat), u = .slice (some ⟨b, o, none⟩) n cap ∧ A x (.pointer (some ⟨b, o, none⟩))
def RL (w : World) (S : CS) (A : AlSem) : List V → List Value → CS → Prop
  | [], us, _ => us = []
  | v :: vs, us, F => ∃ u ur F1 F2, us = u :: ur ∧ F1.le F ∧ F2.le F ∧ F1.dj F2 ∧ RV w S A v u F1 ∧ RL w S A vs ur F2
def RLL (w : World) (S : CS) (A : AlSem) : List (List V) → List (List Value) → CS → Prop
  | [], uss, _ => uss = []
  | e :: es, uss, F => ∃ us ur F1 F2, uss = us :: ur ∧ F1.le F ∧ F2.le F ∧ F1.dj F2 ∧ RL w S A e us F1 ∧ RLL w S A es ur F2
end

/-- Two memories agree on the cells of a set. -/
def Agree (w w' : World) (G : CS) : Prop := ∀ b o, G b o → w'.cell? ⟨b, o, none⟩ = w.cell? ⟨b, o, none⟩ ∧ (w'.frozen? ⟨b, o, none⟩ = w.frozen? ⟨b, o, none⟩ ∧ (PlB w b → PlB w' b)) ∧ ((∀ x, G b x) → w'.heap[b]? = w.heap[b]?)

theorem Agree.mono {w w' : World} {G H : CS} (h : Agree w w' G) (hl : H.le G) : Agree w w' H := fun b o x => ⟨(h b o (hl b o x)).1, (h b o (hl b o x)).2.1, fun hx => (h b o (hl b o x)).2.2 fun y => hl b y (hx y)⟩
theorem BldAt.frame {w w' : World} {T E : TypeId} {s : List UInt8} {u : Value} {F F' : CS} (hF : F.le F') (hw : Agree w w' F) (h : BldAt w T E s u F) : BldAt w' T E s u F' := by
  obtain ⟨b, p, v, hu, hb, hp, hh, hr, hne, hg⟩ := h
  refine ⟨b, p, v, hu, fun x => hF _ _ (hb x), hp, ((hw b 0 (hb 0)).2.2 hb).trans hh, ⟨hr.1, ?_⟩, hne, fun g e x => hF _ _ (hg g e x)⟩
  rcases hr.2 with h | ⟨g, cap, cur, rfl, h1, h2, h3⟩
  · exact .inl h
  · exact .inr ⟨g, cap, cur, rfl, h1, ((hw g 0 (hg g rfl 0)).2.2 (hg g rfl)).trans h2, h3⟩

mutual
theorem RV.frame {w w' : World} {S S' : CS} {A A' : AlSem} (hS : S.le S') (hA : ∀ x u, A x u → A' x u) (hwS : Agree w w' S) :
    ∀ (v : V) (u : Value) (F F' : CS), F.le F' → Agree w w' F → RV w S A v u F → RV w' S' A' v u F'
  | .lit _, _, _, _, _, _, h => h
  | .hole, _, _, _, _, _, _ => trivial
  | .agg cs, _, F, F', hF, hw, h => by
    obtain ⟨us, rfl, h⟩ := h
    exact ⟨us, rfl, RL.frame hS hA hwS cs us F F' hF hw h⟩
  | .tup cs, _, F, F', hF, hw, h => by
    obtain ⟨us, rfl, h⟩ := h
    exact ⟨us, rfl, RL.frame hS hA hwS cs us F F' hF hw h⟩
  | .box cs, _, F, F', hF, hw, h => by
    obtain ⟨b, o, us, rfl, hc, h⟩ := h
    refine ⟨b, o, us, rfl, fun k hk => ?_, RL.frame hS hA hwS cs us _ _ (CS.minus_mono hF) (hw.mono (CS.minus_le _ _)) h⟩
    obtain ⟨h1, h2, h3⟩ := hc k hk
    obtain ⟨e1, e2, _⟩ := hw b (o + k) h1
    exact ⟨hF _ _ h1, e1.trans h2, e2.1.trans h3⟩
  | .sl own n es, _, F, F', hF, hw, h => by
    obtain ⟨a, cap, rfl, hcap, h⟩ := h
    refine ⟨a, cap, rfl, hcap, ?_⟩
    rcases h with h | h | ⟨b, o, uss, rfl, hl, hc, hO, hN, h⟩
    · exact .inl h
    · exact .inr (.inl h)
    · refine .inr (.inr ⟨b, o, uss, rfl, hl, ?_, ?_, ?_, ?_⟩)
      · intro i k hi hk
        rw [← hc i k hi hk]
        have hx : i * n + k < es.length * n := by
          have := Nat.mul_le_mul_right n (show i + 1 ≤ es.length from hi)
          rw [Nat.add_mul] at this; omega
        cases own with
        | true => exact (hw b _ (hO rfl _ (Nat.lt_of_lt_of_le hx (Nat.mul_le_mul_right n hcap.1))).1).1
        | false => exact (hwS b _ (hN rfl _ hx)).1
      · intro e x hx
        obtain ⟨h1, h2, h3⟩ := hO e x hx
        obtain ⟨e1, e2, _⟩ := hw b (o + x) h1
        exact ⟨hF _ _ h1, by rw [e1]; exact h2, e2.2 h3⟩
      · exact fun e x hx => hS _ _ (hN e x hx)
      · cases own with
        | true => exact RLL.frame hS hA hwS es uss _ _ (CS.minus_mono hF) (hw.mono (CS.minus_le _ _)) h
        | false => exact RLL.frame hS hA hwS es uss _ _ (CS.le.refl _) (fun _ _ h => h.elim) h
  | .rp cs, _, F, F', hF, hw, h => by
    obtain ⟨b, o, us, rfl, hc, h⟩ := h
    refine ⟨b, o, us, rfl, fun k hk => ?_, RL.frame hS hA hwS cs us _ _ (CS.le.refl _) (fun _ _ h => h.elim) h⟩
    obtain ⟨h1, h2⟩ := hc k hk
    exact ⟨hS _ _ h1, (hwS b (o + k) h1).1.trans h2⟩
  | .al x, u, _, _, _, _, h => hA x u h
  | .tl x n, _, _, _, _, _, h => by
    obtain ⟨b, o, cap, rfl, h⟩ := h
    exact ⟨b, o, cap, rfl, hA x _ h⟩
  | .bld _ _ _, _, _, _, hF, hw, h => BldAt.frame hF hw h
  | .fn g cs, _, F, F', hF, hw, h => by
    obtain ⟨us, rfl, h⟩ := h
    exact ⟨us, rfl, RL.frame hS hA hwS cs us F F' hF hw h⟩
theorem RL.frame {w w' : World} {S S' : CS} {A A' : AlSem} (hS : S.le S') (hA : ∀ x u, A x u → A' x u) (hwS : Agree w w' S) :
    ∀ (vs : List V) (us : List Value) (F F' : CS), F.le F' → Agree w w' F → RL w S A vs us F → RL w' S' A' vs us F'
  | [], _, _, _, _, _, h => h
  | v :: vs, _, F, F', hF, hw, h => by
    obtain ⟨u, ur, F1, F2, rfl, l1, l2, d, hv, hr⟩ := h
    exact ⟨u, ur, F1, F2, rfl, l1.trans hF, l2.trans hF, d, RV.frame hS hA hwS v u F1 F1 (CS.le.refl _) (hw.mono l1) hv, RL.frame hS hA hwS vs ur F2 F2 (CS.le.refl _) (hw.mono l2) hr⟩
theorem RLL.frame {w w' : World} {S S' : CS} {A A' : AlSem} (hS : S.le S') (hA : ∀ x u, A x u → A' x u) (hwS : Agree w w' S) :
    ∀ (es : List (List V)) (uss : List (List Value)) (F F' : CS), F.le F' → Agree w w' F → RLL w S A es uss F → RLL w' S' A' es uss F'
  | [], _, _, _, _, _, h => h
  | e :: es, _, F, F', hF, hw, h => by
    obtain ⟨us, ur, F1, F2, rfl, l1, l2, d, hv, hr⟩ := h
    exact ⟨us, ur, F1, F2, rfl, l1.trans hF, l2.trans hF, d, RL.frame hS hA hwS e us F1 F1 (CS.le.refl _) (hw.mono l1) hv, RLL.frame hS hA hwS es ur F2 F2 (CS.le.refl _) (hw.mono l2) hr⟩
end

theorem Agree.refl (w : World) (G : CS) : Agree w w G := fun _ _ _ => ⟨rfl, ⟨rfl, id⟩, fun _ => rfl⟩
theorem RV.mono {w : World} {S : CS} {A : AlSem} {v : V} {u : Value} {F F' : CS} (h : RV w S A v u F) (hF : F.le F') : RV w S A v u F' :=
  RV.frame (CS.le.refl _) (fun _ _ h => h) (Agree.refl _ _) v u F F' hF (Agree.refl _ _) h
theorem RL.mono {w : World} {S : CS} {A : AlSem} {v : List V} {u : List Value} {F F' : CS} (h : RL w S A v u F) (hF : F.le F') : RL w S A v u F' :=
  RL.frame (CS.le.refl _) (fun _ _ h => h) (Agree.refl _ _) v u F F' hF (Agree.refl _ _) h
theorem RLL.mono {w : World} {S : CS} {A : AlSem} {v : List (List V)} {u : List (List Value)} {F F' : CS} (h : RLL w S A v u F) (hF : F.le F') : RLL w S A v u F' :=
  RLL.frame (CS.le.refl _) (fun _ _ h => h) (Agree.refl _ _) v u F F' hF (Agree.refl _ _) h

/-- Copied freely: no cell of its own. -/
def V.cp : V → Bool
  | .lit _ | .hole | .rp _ | .al _ | .tl _ _ => true
  | .sl own _ _ => !own
  | .agg cs | .tup cs | .fn _ cs => go cs
  | .box _ | .bld _ _ _ => false
where go : List V → Bool
  | [] => true
  | v :: vs => v.cp && go vs

mutual
theorem RV.cp_none {w : World} {S : CS} {A : AlSem} : ∀ (v : V) (u : Value) (F : CS), v.cp = true → RV w S A v u F → RV w S A v u CS.none
  | .lit _, _, _, _, h => h
  | .hole, _, _, _, _ => trivial
  | .agg cs, _, F, hc, h => by obtain ⟨us, rfl, h⟩ := h; exact ⟨us, rfl, RL.cp_none cs us F hc h⟩
  | .tup cs, _, F, hc, h => by obtain ⟨us, rfl, h⟩ := h; exact ⟨us, rfl, RL.cp_none cs us F hc h⟩
  | .box cs, _, F, hc, h => by simp [V.cp] at hc
  | .sl own n es, _, F, hc, h => by
    obtain rfl : own = false := by simpa [V.cp] using hc
    simpa [RV] using h
  | .rp cs, _, F, _, h => h
  | .al x, _, _, _, h => h
  | .tl _ _, _, _, _, h => h
  | .bld _ _ _, _, _, hc, _ => by simp [V.cp] at hc
  | .fn g cs, _, F, hc, h => by obtain ⟨us, rfl, h⟩ := h; exact ⟨us, rfl, RL.cp_none cs us F hc h⟩
theorem RL.cp_none {w : World} {S : CS} {A : AlSem} : ∀ (vs : List V) (us : List Value) (F : CS), V.cp.go vs = true → RL w S A vs us F → RL w S A vs us CS.none
  | [], _, _, _, h => h
  | v :: vs, _, F, hc, h => by
    obtain ⟨u, ur, F1, F2, rfl, l1, l2, d, hv, hr⟩ := h
    simp only [V.cp.go, Bool.and_eq_true] at hc
    exact ⟨u, ur, CS.none, CS.none, rfl, CS.none_le _, CS.none_le _, CS.none_dj _, RV.cp_none v u F1 hc.1 hv, RL.cp_none vs ur F2 hc.2 hr⟩
end

/-- All that it owns is given up: nobody writes it any more. -/
def V.frz : V → V
  | .lit v => .lit v
  | .hole => .hole
  | .agg cs => .agg (go cs)
  | .tup cs => .tup (go cs)
  | .box cs => .rp (go cs)
  | .sl _ n es => .sl false n (goo es)
  | .rp cs => .rp cs
  | .al x => .al x
  | .bld _ _ _ => .hole
  | .tl _ _ => .hole
  | .fn g cs => .fn g (go cs)
where
  go : List V → List V
    | [] => []
    | v :: vs => v.frz :: go vs
  goo : List (List V) → List (List V)
    | [] => []
    | e :: es => go e :: goo es

theorem frz_go_length : ∀ l : List V, (V.frz.go l).length = l.length
  | [] => rfl
  | _ :: l => by simp [V.frz.go, frz_go_length l]
theorem frz_goo_length : ∀ l : List (List V), (V.frz.goo l).length = l.length
  | [] => rfl
  | _ :: l => by simp [V.frz.goo, frz_goo_length l]
theorem frz_goo_mem {n : Nat} : ∀ l : List (List V), (∀ e ∈ l, e.length = n) → ∀ e ∈ V.frz.goo l, e.length = n
  | [], _, e, he => by simp [V.frz.goo] at he
  | x :: l, h, e, he => by
    simp only [V.frz.goo, List.mem_cons] at he
    rcases he with rfl | he
    · rw [frz_go_length]; exact h x (by simp)
    · exact frz_goo_mem l (fun e he => h e (by simp [he])) e he

mutual
theorem RV.frz {w : World} {S : CS} {A : AlSem} : ∀ (v : V) (u : Value) (F : CS), RV w S A v u F → RV w (S.un F) A v.frz u CS.none
  | .lit _, _, _, h => h
  | .hole, _, _, _ => trivial
  | .agg cs, _, F, h => by obtain ⟨us, rfl, h⟩ := h; exact ⟨us, rfl, RL.frz cs us F h⟩
  | .tup cs, _, F, h => by obtain ⟨us, rfl, h⟩ := h; exact ⟨us, rfl, RL.frz cs us F h⟩
  | .box cs, _, F, h => by
    obtain ⟨b, o, us, rfl, hc, h⟩ := h
    refine ⟨b, o, us, rfl, fun k hk => ?_, ?_⟩
    · rw [frz_go_length] at hk
      exact ⟨.inr (hc k hk).1, (hc k hk).2.1⟩
    · exact RL.frame (S := S.un (F.minus (CS.row b o cs.length))) (fun b o h => h.elim .inl (fun h => .inr h.1)) (fun _ _ h => h) (Agree.refl _ _) _ _ _ _ (CS.le.refl _) (Agree.refl _ _) (RL.frz cs us _ h)
  | .sl own n es, _, F, h => by
    obtain ⟨a, cap, rfl, hcap, h⟩ := h
    refine ⟨a, cap, by rw [frz_goo_length], by rw [frz_goo_length]; exact hcap, ?_⟩
    rcases h with ⟨rfl, h⟩ | ⟨h1, rfl, h3⟩ | ⟨b, o, uss, rfl, hl, hc, hO, hN, h⟩
    · exact .inl ⟨rfl, rfl⟩
    · exact .inl ⟨rfl, rfl⟩
    · refine .inr (.inr ⟨b, o, uss, rfl, frz_goo_mem es hl, by rw [frz_goo_length]; exact hc, (by intro h; cases h), ?_, ?_⟩)
      · rw [frz_goo_length]
        intro _ x hx
        cases own with
        | true => exact .inr (hO rfl x (Nat.lt_of_lt_of_le hx (Nat.mul_le_mul_right n hcap.1))).1
        | false => exact .inl (hN rfl x hx)
      · cases own with
        | true =>
          have h' := RLL.frz es uss _ h
          exact RLL.frame (S := S.un (F.minus (CS.row b o (cap * n)))) (fun b o h => h.elim .inl (fun h => .inr h.1)) (fun _ _ h => h) (Agree.refl _ _) _ _ _ _ (CS.le.refl _) (Agree.refl _ _) h'
        | false =>
          have h' := RLL.frz es uss _ h
          exact RLL.frame (S := S.un CS.none) (fun b o h => h.elim .inl (fun h => h.elim)) (fun _ _ h => h) (Agree.refl _ _) _ _ _ _ (CS.le.refl _) (Agree.refl _ _) h'
  | .rp cs, _, F, h => RV.frame (CS.le_un_l _ _) (fun _ _ h => h) (Agree.refl _ _) (.rp cs) _ CS.none CS.none (CS.le.refl _) (Agree.refl _ _) h
  | .al x, _, _, h => h
  | .bld _ _ _, _, _, _ => trivial
  | .tl _ _, _, _, _ => trivial
  | .fn g cs, _, F, h => by obtain ⟨us, rfl, h⟩ := h; exact ⟨us, rfl, RL.frz cs us F h⟩
theorem RL.frz {w : World} {S : CS} {A : AlSem} : ∀ (vs : List V) (us : List Value) (F : CS), RL w S A vs us F → RL w (S.un F) A (V.frz.go vs) us CS.none
  | [], _, _, h => h
  | v :: vs, _, F, h => by
    obtain ⟨u, ur, F1, F2, rfl, l1, l2, d, hv, hr⟩ := h
    have hv' := RV.frz v u F1 hv
    have hr' := RL.frz vs ur F2 hr
    refine ⟨u, ur, CS.none, CS.none, rfl, CS.none_le _, CS.none_le _, CS.none_dj _, ?_, ?_⟩
    · exact RV.frame (S := S.un F1) (fun b o h => h.imp id (l1 b o)) (fun _ _ h => h) (Agree.refl _ _) _ _ _ _ (CS.le.refl _) (Agree.refl _ _) hv'
    · exact RL.frame (S := S.un F2) (fun b o h => h.imp id (l2 b o)) (fun _ _ h => h) (Agree.refl _ _) _ _ _ _ (CS.le.refl _) (Agree.refl _ _) hr'
theorem RLL.frz {w : World} {S : CS} {A : AlSem} : ∀ (es : List (List V)) (uss : List (List Value)) (F : CS), RLL w S A es uss F → RLL w (S.un F) A (V.frz.goo es) uss CS.none
  | [], _, _, h => h
  | e :: es, _, F, h => by
    obtain ⟨us, ur, F1, F2, rfl, l1, l2, d, hv, hr⟩ := h
    have hv' := RL.frz e us F1 hv
    have hr' := RLL.frz es ur F2 hr
    refine ⟨us, ur, CS.none, CS.none, rfl, CS.none_le _, CS.none_le _, CS.none_dj _, ?_, ?_⟩
    · exact RL.frame (S := S.un F1) (fun b o h => h.imp id (l1 b o)) (fun _ _ h => h) (Agree.refl _ _) _ _ _ _ (CS.le.refl _) (Agree.refl _ _) hv'
    · exact RLL.frame (S := S.un F2) (fun b o h => h.imp id (l2 b o)) (fun _ _ h => h) (Agree.refl _ _) _ _ _ _ (CS.le.refl _) (Agree.refl _ _) hr'
end

/-- Nothing in it lies in cells that others read too. -/
def V.noShr : V → Bool
  | .lit _ | .hole | .bld _ _ _ => true
  | .agg cs | .tup cs | .box cs | .fn _ cs => go cs
  | .sl own _ es => own && goo es
  | .rp _ | .al _ | .tl _ _ => false
where
  go : List V → Bool
    | [] => true
    | v :: vs => v.noShr && go vs
  goo : List (List V) → Bool
    | [] => true
    | e :: es => go e && goo es

mutual
theorem RV.noShr {w : World} {S S' : CS} {A A' : AlSem} : ∀ (v : V) (u : Value) (F : CS), v.noShr = true → RV w S A v u F → RV w S' A' v u F
  | .lit _, _, _, _, h => h
  | .hole, _, _, _, _ => trivial
  | .agg cs, _, F, hc, h => by obtain ⟨us, rfl, h⟩ := h; exact ⟨us, rfl, RL.noShr cs us F hc h⟩
  | .tup cs, _, F, hc, h => by obtain ⟨us, rfl, h⟩ := h; exact ⟨us, rfl, RL.noShr cs us F hc h⟩
  | .box cs, _, F, hc, h => by
    obtain ⟨b, o, us, rfl, h1, h⟩ := h
    exact ⟨b, o, us, rfl, h1, RL.noShr cs us _ hc h⟩
  | .sl own n es, _, F, hc, h => by
    simp only [V.noShr, Bool.and_eq_true] at hc
    obtain ⟨rfl, hc⟩ := hc
    obtain ⟨a, cap, rfl, hcap, h⟩ := h
    refine ⟨a, cap, rfl, hcap, ?_⟩
    rcases h with h | h | ⟨b, o, uss, rfl, hl, hx, hO, hN, h⟩
    · exact .inl h
    · exact .inr (.inl h)
    · exact .inr (.inr ⟨b, o, uss, rfl, hl, hx, hO, (by intro h; cases h), RLL.noShr es uss _ hc h⟩)
  | .rp cs, _, F, hc, h => by simp [V.noShr] at hc
  | .al x, _, _, hc, h => by simp [V.noShr] at hc
  | .tl _ _, _, _, hc, h => by simp [V.noShr] at hc
  | .bld _ _ _, _, _, _, h => h
  | .fn g cs, _, F, hc, h => by obtain ⟨us, rfl, h⟩ := h; exact ⟨us, rfl, RL.noShr cs us F hc h⟩
theorem RL.noShr {w : World} {S S' : CS} {A A' : AlSem} : ∀ (vs : List V) (us : List Value) (F : CS), V.noShr.go vs = true → RL w S A vs us F → RL w S' A' vs us F
  | [], _, _, _, h => h
  | v :: vs, _, F, hc, h => by
    obtain ⟨u, ur, F1, F2, rfl, l1, l2, d, hv, hr⟩ := h
    simp only [V.noShr.go, Bool.and_eq_true] at hc
    exact ⟨u, ur, F1, F2, rfl, l1, l2, d, RV.noShr v u F1 hc.1 hv, RL.noShr vs ur F2 hc.2 hr⟩
theorem RLL.noShr {w : World} {S S' : CS} {A A' : AlSem} : ∀ (es : List (List V)) (uss : List (List Value)) (F : CS), V.noShr.goo es = true → RLL w S A es uss F → RLL w S' A' es uss F
  | [], _, _, _, h => h
  | e :: es, _, F, hc, h => by
    obtain ⟨us, ur, F1, F2, rfl, l1, l2, d, hv, hr⟩ := h
    simp only [V.noShr.goo, Bool.and_eq_true] at hc
    exact ⟨us, ur, F1, F2, rfl, l1, l2, d, RL.noShr e us F1 hc.1 hv, RLL.noShr es ur F2 hc.2 hr⟩
end

end Go.Proofs.YtainknkfjekngaaDoor.Vm
