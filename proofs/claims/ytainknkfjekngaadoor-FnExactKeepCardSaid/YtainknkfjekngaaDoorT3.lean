/- The typed operations are the machine's. -/
import Derived.Test.YtainknkfjekngaaDoorT2
namespace Go.Proofs.YtainknkfjekngaaDoor.Vm
open Go
set_option linter.unusedVariables false
set_option linter.unusedSimpArgs false

section
variable {R : Type} {r0 : R}

theorem beq_false {a b : Nat} (h : ¬ Nat.beq a b = true) : a ≠ b := fun e => h (by subst e; simp)
theorem vl_one {cs : List V} {c : SV} (h : cs = vl [c]) : cs = [c.v] := h
theorem notsl {v : SV} (h1 : ∀ e l, v ≠ .sl false e l) (h2 : ∀ n, v ≠ .nil false n) : ∀ n es, v.v ≠ .sl false n es := by
  intro n es e
  cases v with
  | sl o e' l => cases o with
    | false => exact h1 _ _ rfl
    | true => cases e
  | nil o m => cases o with
    | false => exact h2 _ rfl
    | true => cases e
  | _ => cases e
theorem notsl' {v : SV} (h1 : ∀ o e l, v ≠ .sl o e l) (h2 : ∀ o n, v ≠ .nil o n) : ∀ o n es, v.v ≠ .sl o n es := by
  intro o n es e
  cases v with
  | sl o e' l => exact h1 _ _ _ rfl
  | nil o m => exact h2 _ _ rfl
  | _ => cases e
theorem notrp {v : SV} (h1 : ∀ cs, v ≠ .rp cs) : ∀ cs, v.v ≠ .rp cs := by
  intro cs e
  cases v with
  | rp cs => exact h1 _ rfl
  | _ => cases e

theorem res_rp {ts : TSt} {x : XO} {cs : List V} {rp : Nat × List (Nat × Nat)} (h : ts.res x = some rp) : (ts.val x).v ≠ .rp cs := by
  intro e
  cases x with
  | t r =>
    simp only [TSt.res] at h
    simp only [TSt.val] at e
    cases hv : (ts.get r).v <;> rw [hv] at h e <;> simp at h <;> cases e
  | c v => simp [TSt.res] at h
  | nil n => simp [TSt.res] at h

theorem res_fn {ts : TSt} {x : XO} {g : Nat} {cs : List V} {rp : Nat × List (Nat × Nat)} (h : ts.res x = some rp) : (ts.val x).v ≠ .fn g cs := by
  intro e
  cases x with
  | t r =>
    simp only [TSt.res] at h
    simp only [TSt.val] at e
    cases hv : (ts.get r).v <;> rw [hv] at h e <;> simp at h <;> cases e
  | c v => simp [TSt.res] at h
  | nil n => simp [TSt.res] at h
theorem vals_v (ts : TSt) (l : List XO) : l.map ts.enc.val = vl (l.map ts.val) := by
  rw [vl_map, List.map_map]; congr 1; funext y; exact enc_val ts y

theorem stepAS_v {x : XOp} {e : ET} {ts : TSt} {k : List SUpd → Option R} (h : stepAS x e ts k = some r0) : ∃ us, stepA x ts.enc = some (us.map SUpd.enc) ∧ k us = some r0 := by
  cases x with
  | app d n by_ x y =>
    simp only [stepAS, cond_if] at h
    split at h <;> try (cases h; done)
    rename_i hc
    simp only [Bool.and_eq_true] at hc
    obtain ⟨hw, hcp, hlf, hne⟩ := hc
    have hw' := Nat.eq_of_beq_eq_true hw
    subst hw'
    split at h <;> try (cases h; done)
    rename_i l hl
    obtain ⟨s, o, n, es, h1, h2, h3, h4⟩ := svK_v h
    split at h4 <;> try (cases h4; done)
    rename_i o2 l2 hl2
    split at h4 <;> try (cases h4; done)
    rename_i hb
    have hv2 := asL_v hl2
    rw [h1] at hv2; cases hv2
    refine ⟨_, ?_, h4⟩
    simp only [stepA, enc_val, asL_v hl, h3, if_true, esLeaf_enc e l2 hlf, List.length_map, hb.1, hb.2, esCp_enc e l2 hcp, hne, List.map_append, dropU_v, List.map_cons, List.map_nil, SUpd.enc, SV.v]
    cases x <;> rfl
  | appT d n by_ x q =>
    simp only [stepAS, cond_if] at h
    split at h <;> try (cases h; done)
    rename_i hc
    simp only [Bool.and_eq_true] at hc
    obtain ⟨hw, hlf, hne⟩ := hc
    have hw' := Nat.eq_of_beq_eq_true hw
    subst hw'
    split at h <;> try (cases h; done)
    rename_i l hl
    split at h <;> try (cases h; done)
    rename_i l2 hl2
    split at h <;> try (cases h; done)
    rename_i hb
    refine ⟨_, ?_, h⟩
    simp only [stepA, enc_val, enc_v, asL_v hl, asL_v hl2, if_true, esLeaf_enc e l2 hlf, List.length_map, hb.1, hb.2, hne, List.map_append, dropU_v, List.map_cons, List.map_nil, SUpd.enc, SV.v]
    cases x <;> rfl
  | _ => simp [stepAS] at h
theorem ownSl_v {c : SV} (h : ownSl c = true) : ∃ n es, c.v = .sl true n es := by
  cases c with
  | sl o e l => cases o <;> simp [ownSl] at h; exact ⟨_, _, rfl⟩
  | nil o n => cases o <;> simp [ownSl] at h; exact ⟨_, _, rfl⟩
  | _ => simp [ownSl] at h

set_option maxHeartbeats 4000000 in
theorem stepS_v {x : XOp} {e : ET} {ts : TSt} {k : List SUpd → Option R} (h : stepS x e ts k = some r0) : ∃ us, stepU x ts.enc = some (us.map SUpd.enc) ∧ k us = some r0 := by
  cases x with
  | mv d x =>
    simp only [stepS, cond_if] at h
    split at h <;> try (cases h; done)
    rename_i hc
    exact ⟨_, by simp only [stepU, enc_val, SV.cp_v, hc, if_true]; rfl, h⟩
  | mvT d r => exact ⟨_, rfl, h⟩
  | mvA d r =>
    simp only [stepS] at h
    split at h
    · rename_i v0 hn
      exact ⟨_, by simp only [stepU, name_v, hn, Option.map_some]; rfl, h⟩
    · rename_i hn
      rw [cond_if] at h
      split at h <;> try (cases h; done)
      rename_i hc
      exact ⟨_, by simp only [stepU, name_v, hn, Option.map_none, enc_v, SV.cp_v, hc, if_true]; rfl, h⟩
  | mvP d r => exact ⟨_, rfl, h⟩
  | mvZ d r => exact ⟨_, by simp only [stepU, enc_v, ← SV.frz_v]; rfl, h⟩
  | pick d c a b =>
    simp only [stepS] at h
    split at h <;> try (cases h; done)
    rename_i t ht
    have e1 : ts.enc.val c = .lit (.bool t) := by rw [enc_val, ht]; rfl
    split at h
    · rename_i v hv
      obtain ⟨rfl, h1, h2⟩ := pickS_v hv
      refine ⟨_, ?_, h⟩
      simp only [stepU, e1, enc_val, SV.cp_v, h1, h2]
      cases t <;> rfl
    · cases t with
      | true =>
        change (bif (ts.val a).cp then k [⟨d, .pu, ts.val a⟩] else none) = some r0 at h
        rw [cond_if] at h
        split at h <;> try (cases h; done)
        rename_i hc
        exact ⟨_, by simp only [stepU, e1, enc_val, SV.cp_v, if_true, hc]; rfl, h⟩
      | false =>
        change (bif (ts.val b).cp then k [⟨d, .pu, ts.val b⟩] else none) = some r0 at h
        rw [cond_if] at h
        split at h <;> try (cases h; done)
        rename_i hc
        exact ⟨_, by simp only [stepU, e1, enc_val, SV.cp_v, Bool.false_eq_true, if_false, hc, if_true]; rfl, h⟩
  | bin d bt op x y =>
    simp only [stepS] at h
    obtain ⟨a, b, v, sv, h1, h2, h3, h4, h5⟩ := binK_v h
    exact ⟨_, by simp only [stepU, enc_val, h1, h2, h3, ← h4]; rfl, h5⟩
  | un d op x =>
    simp only [stepS] at h
    split at h <;> try (cases h; done)
    · rename_i b hv
      exact ⟨_, by simp only [stepU, enc_val, hv, SV.v, unV]; rfl, h⟩
    · rename_i kk n hv
      exact ⟨_, by simp only [stepU, enc_val, hv, SV.v, unV]; rfl, h⟩
  | allocB d T E =>
    simp only [stepS] at h
    exact ⟨_, rfl, h⟩
  | alloc d zs =>
    simp only [stepS] at h
    split at h <;> try (cases h; done)
    rename_i l hl
    exact ⟨_, by simp only [stepU, ← zsS_v hl]; rfl, h⟩
  | box d x =>
    simp only [stepS] at h
    split at h <;> try (cases h; done)
    rename_i cs hcs
    rw [cond_if] at h
    split at h <;> try (cases h; done)
    rename_i hc
    exact ⟨_, by simp only [stepU, enc_val, SV.cells_v hcs, SV.cp_v, hc, if_true]; rfl, h⟩
  | boxZ d x =>
    simp only [stepS] at h
    split at h <;> try (cases h; done)
    rename_i cs hcs
    rw [cond_if] at h
    split at h <;> try (cases h; done)
    rename_i hc
    exact ⟨_, by
      simp only [stepU, enc_val, SV.cells_v hcs, SV.cp_v, hc, if_true, V.frz]
      rw [← frz_vl]; rfl, h⟩
  | mkF d g ys =>
    simp only [stepS, cond_if] at h
    split at h <;> try (cases h; done)
    rename_i hc
    exact ⟨_, by simp only [stepU, nmvs_v]; rw [if_pos (by rw [cp_vl]; exact hc)]; rfl, h⟩
  | tlS d n x lo =>
    simp only [stepS] at h
    split at h <;> try (cases h; done)
    rename_i r hr
    split at h <;> try (cases h; done)
    rename_i e l hv
    rw [cond_if] at h
    split at h <;> try (cases h; done)
    rename_i hw
    have hw' := Nat.eq_of_beq_eq_true hw
    obtain ⟨m, h1, h2⟩ := bndK_v h
    split at h2 <;> try (cases h2; done)
    rename_i hm
    refine ⟨_, ?_, h2⟩
    simp only [stepU, tlU, enc_resH, hr, enc_v, hv, SV.v, hw', if_true, List.length_map, h1]
    rw [if_pos hm]
    simp only [List.map_cons, List.map_nil, SUpd.enc, SV.v, enc_ver, enc_hv]
  | clr x zs =>
    simp only [stepS] at h
    split at h <;> try (cases h; done)
    rename_i z m hz
    rw [cond_if] at h
    split at h <;> try (cases h; done)
    rename_i hg
    simp only [Bool.and_eq_true] at hg
    split at h <;> try (cases h; done)
    rename_i l j hp
    split at h <;> try (cases h; done)
    rename_i e es hv
    split at h <;> try (cases h; done)
    rename_i zl hzl
    split at h <;> try (cases h; done)
    rename_i z0 hz0
    rw [cond_if] at h
    split at h <;> try (cases h; done)
    rename_i hw
    simp only [Bool.and_eq_true] at hw
    have hj := Nat.eq_of_beq_eq_true hw.1
    have hw' := Nat.eq_of_beq_eq_true hw.2
    split at h <;> try (cases h; done)
    rename_i hlm
    refine ⟨_, ?_, h⟩
    have hzz : zs = e.enc z0 := by rw [← zsS_v hzl]; exact pk_v hz0
    simp only [stepU, clrU, enc_val, hz, SV.v, enc_good, hg.1, hg.2, if_true, hp, enc_v, hv, hj, hw', List.length_map]
    rw [if_pos hlm.1, if_pos hlm.2]
    simp only [List.map_cons, List.map_nil, SUpd.enc, SV.v, List.map_append, List.map_take, List.map_replicate, hzz, hw']
  | boxT d r =>
    simp only [stepS] at h
    split at h <;> try (cases h; done)
    rename_i cs hcs
    exact ⟨_, by simp only [stepU, enc_v, SV.cells_v hcs]; rfl, h⟩
  | boxL d r =>
    simp only [stepS] at h
    split at h <;> try (cases h; done)
    rename_i cs hcs
    rw [cond_if] at h
    split at h <;> try (cases h; done)
    rename_i hc
    simp only [Bool.and_eq_true, Bool.not_eq_true', allLeafS_v] at hc
    exact ⟨_, by
      simp only [stepU, enc_v, hcs, SV.v]
      rw [if_pos (beq_false (by rw [hc.1]; simp)), if_pos hc.2]
      simp only [List.map_cons, List.map_nil, SUpd.enc, SV.v, aliasS_v, enc_ver, enc_hv], h⟩
  | fadr d x off =>
    simp only [stepS] at h
    split at h
    · rename_i cs hv
      exact ⟨_, by simp only [stepU, enc_val, hv, SV.v]; rw [← vl_drop]; rfl, h⟩
    · split at h <;> try (cases h; done)
      rename_i r p hr
      refine ⟨_, ?_, h⟩
      simp only [stepU, enc_val]
      split
      · rename_i hx; exact absurd hx (res_rp hr)
      · rw [enc_res, hr]; rfl
  | iadr d n x i =>
    simp only [stepS] at h
    split at h <;> try (cases h; done)
    rename_i kd kk hi
    split at h <;> try (cases h; done)
    rename_i h0
    have e1 : ts.enc.val i = .lit (.int kd kk) := by rw [enc_val, hi]; rfl
    split at h
    · rename_i e' l hv
      rw [cond_if] at h
      split at h <;> try (cases h; done)
      rename_i hw
      obtain ⟨y, hy, h⟩ := Option.bind_eq_some_iff.1 h
      refine ⟨_, ?_, h⟩
      simp only [stepU, e1, h0, if_true, enc_val, hv, SV.v, Nat.eq_of_beq_eq_true hw, List.getElem?_map, hy, Option.map_some, ← unp_v]
      rfl
    · cases h
    · rename_i hn1 hn2
      split at h <;> try (cases h; done)
      rename_i r p hr
      obtain ⟨c, h1, h2⟩ := slK_v h
      split at h2 <;> try (cases h2; done)
      rename_i e' l
      rw [cond_if] at h2
      split at h2 <;> try (cases h2; done)
      rename_i hw
      split at h2 <;> try (cases h2; done)
      rename_i hlt
      refine ⟨_, ?_, h2⟩
      simp only [stepU, e1, h0, if_true, enc_val]
      split
      · rename_i hx; exact absurd hx (notsl (fun e l he => hn1 e l he) (fun n he => hn2 n he) _ _)
      · rw [enc_resH, hr]
        simp only [h1, SV.v, Nat.eq_of_beq_eq_true hw, if_true, List.length_map]
        rw [if_pos hlt]; rfl
  | load d x n g =>
    simp only [stepS] at h
    split at h
    · rename_i cs hv
      rw [cond_if] at h
      split at h <;> try (cases h; done)
      rename_i hc
      simp only [Bool.and_eq_true] at hc
      refine ⟨_, ?_, h⟩
      simp only [stepU, enc_val, hv, SV.v, vl_len]
      rw [if_pos (Nat.le_of_ble_eq_true hc.1), ← vl_take, cp_vl, if_pos hc.2, ← mkS_v]; rfl
    · split at h <;> try (cases h; done)
      rename_i r p hr
      obtain ⟨cs, h1, h2⟩ := getK_v h
      refine ⟨_, ?_, h2⟩
      simp only [stepU, enc_val]
      split
      · rename_i hx; exact absurd hx (res_rp hr)
      · rw [enc_res, hr]
        simp only [enc_v, h1, ← view_v, ← mkS_v]; rfl
  | loadT d x n g =>
    simp only [stepS] at h
    split at h <;> try (cases h; done)
    rename_i r p hr
    rw [cond_if] at h
    split at h <;> try (cases h; done)
    rename_i hd
    obtain ⟨cs, ys, v', h1, _, ⟨cs1, h2, h3⟩, h4, h5, h6⟩ := updK_v h
    refine ⟨_, ?_, h6⟩
    cases h3
    rw [rests_v, h2] at h5
    simp only [stepU, enc_res, hr]
    rw [if_pos (beq_false hd)]
    simp only [enc_v, h1, h5, ← mkS_v]; rfl
  | loadZ d x n g =>
    simp only [stepS] at h
    split at h <;> try (cases h; done)
    rename_i r p hr
    rw [cond_if] at h
    split at h <;> try (cases h; done)
    rename_i hd
    obtain ⟨cs, ys, v', h1, _, ⟨cs1, h2, h3⟩, h4, h5, h6⟩ := updK_v h
    refine ⟨_, ?_, h6⟩
    cases h3
    rw [frz_vl, h2, ← frz_vl] at h5
    simp only [stepU, enc_res, hr]
    rw [if_pos (beq_false hd)]
    simp only [enc_v, h1, h5, ← mkS_v, ← frz_vl]; rfl
  | store x y n =>
    simp only [stepS] at h
    split at h <;> try (cases h; done)
    rename_i r p hr
    split at h <;> try (cases h; done)
    rename_i cs' hcs
    rw [cond_if] at h
    split at h <;> try (cases h; done)
    rename_i hc
    obtain ⟨cs, ys, v', h1, _, ⟨cs1, h2, h3⟩, h4, h5, h6⟩ := updK_v h
    refine ⟨_, ?_, h6⟩
    cases h3
    simp only [stepU, enc_res, hr, enc_v, h1, enc_val, SV.cells_v hcs, SV.cp_v, hc, if_true, h5, vl_len, h4]; rfl
  | storeT x q n =>
    simp only [stepS] at h
    split at h <;> try (cases h; done)
    rename_i r p hr
    rw [cond_if] at h
    split at h <;> try (cases h; done)
    rename_i hd
    split at h <;> try (cases h; done)
    rename_i cs' hcs
    obtain ⟨cs, ys, v', h1, _, ⟨cs1, h2, h3⟩, h4, h5, h6⟩ := updK_v h
    refine ⟨_, ?_, h6⟩
    cases h3
    simp only [stepU, enc_res, hr]
    rw [if_pos (beq_false hd)]
    simp only [enc_v, h1, SV.cells_v hcs, h5, vl_len, h4, if_true]; rfl
  | nilck d x =>
    simp only [stepS] at h
    split at h
    · rename_i cs hv
      exact ⟨_, by simp only [stepU, enc_val, hv, SV.v]; rfl, h⟩
    · rename_i g cs hv
      rw [cond_if] at h
      split at h <;> try (cases h; done)
      rename_i hc
      exact ⟨_, by simp only [stepU, enc_val, hv, SV.v]; rw [if_pos (by rw [show SV.v.go cs = vl cs from rfl, cp_vl]; exact hc)]; rfl, h⟩
    · split at h <;> try (cases h; done)
      rename_i r p hr
      refine ⟨_, ?_, h⟩
      simp only [stepU, enc_val]
      split
      · rename_i hx; exact absurd hx (res_rp hr)
      · rename_i hx; exact absurd hx (res_fn hr)
      · rw [enc_res, hr]; rfl
  | lenS d x =>
    simp only [stepS] at h
    split at h <;> try (cases h; done)
    rename_i s hv
    exact ⟨_, by simp only [stepU, enc_val, hv, SV.v, ba_size']; rfl, h⟩
  | lenB d x =>
    simp only [stepS] at h
    split at h
    · rename_i o e' l hv
      exact ⟨_, by simp only [stepU, enc_val, hv, SV.v, List.length_map]; rfl, h⟩
    · rename_i o n hv
      exact ⟨_, by simp only [stepU, enc_val, hv, SV.v]; rfl, h⟩
    · rename_i hn1 hn2
      split at h <;> try (cases h; done)
      rename_i r p hr
      obtain ⟨c, h1, h2⟩ := slK_v h
      split at h2 <;> try (cases h2; done)
      · refine ⟨_, ?_, h2⟩
        cases hx : ts.val x with
        | sl o e l => exact absurd hx (hn1 _ _ _)
        | nil o n => exact absurd hx (hn2 _ _)
        | _ => simp only [stepU, enc_val, hx, SV.v, enc_resH, hr, h1, List.length_map]; rfl
      · refine ⟨_, ?_, h2⟩
        cases hx : ts.val x with
        | sl o e l => exact absurd hx (hn1 _ _ _)
        | nil o n => exact absurd hx (hn2 _ _)
        | _ => simp only [stepU, enc_val, hx, SV.v, enc_resH, hr, h1, List.length_nil]; rfl
  | ext d x i =>
    simp only [stepS] at h
    split at h <;> try (cases h; done)
    rename_i cs hv
    split at h <;> try (cases h; done)
    rename_i c hc
    rw [cond_if] at h
    split at h <;> try (cases h; done)
    rename_i hcp
    exact ⟨_, by simp only [stepU, enc_val, hv, SV.v, nthS_v hc, SV.cp_v, hcp, if_true]; rfl, h⟩
  | extT d r i =>
    simp only [stepS] at h
    split at h <;> try (cases h; done)
    rename_i cs hv
    split at h <;> try (cases h; done)
    rename_i c hc
    rw [cond_if] at h
    split at h <;> try (cases h; done)
    rename_i hd
    refine ⟨_, ?_, h⟩
    simp only [stepU, enc_v, hv, SV.v, nthS_v hc]
    rw [if_pos (beq_false hd)]
    have : (vl cs).set i V.hole = vl (cs.set i .hole) := (vl_set cs i .hole).symm
    rw [show SV.v.go cs = vl cs from rfl, this]; rfl
  | eqA d neg ks x y =>
    simp only [stepS] at h
    split at h <;> try (cases h; done)
    rename_i l1 l2 hx hy
    split at h <;> try (cases h; done)
    rename_i b hb
    obtain ⟨m1, m2, g1, g2, g3⟩ := eqS_v hb
    refine ⟨_, ?_, h⟩
    simp only [stepU, enc_val, scal_v hx g1, scal_v hy g2, g3, List.map_cons, List.map_nil, SUpd.enc, SV.v, cond_if]
  | cvi d kk kk' x =>
    simp only [stepS] at h
    split at h <;> try (cases h; done)
    rename_i k1 z hv
    split at h <;> try (cases h; done)
    rename_i hk
    exact ⟨_, by simp only [stepU, enc_val, hv, SV.v, hk, if_true]; rfl, h⟩
  | s2b d x => simp [stepS] at h
  | b2s d x =>
    simp only [stepS] at h
    obtain ⟨s, o, n, es, h1, h2, h3, h4⟩ := svK_v h
    split at h4 <;> try (cases h4; done)
    rename_i o' l hl
    have hv := asL_v hl
    rw [h1] at hv
    cases hv
    refine ⟨_, ?_, h4⟩
    have hb : ∀ l : List Int, byteL (l.map (ET.int .u8).enc) = some (l.map fun n => UInt8.ofNat n.toNat) := by
      intro l
      induction l with
      | nil => rfl
      | cons n l ih => simp only [List.map_cons, ET.enc, byteL]; rw [show (List.map (ET.int .u8).enc l) = l.map (ET.int .u8).enc from rfl] at *; simp only [ET.enc] at ih; rw [ih]; rfl
    simp only [stepU, h3, ET.wid, if_true]
    rw [hb l]; rfl
  | idx d x i =>
    simp only [stepS] at h
    split at h <;> try (cases h; done)
    rename_i s kd z hx hi
    split at h <;> try (cases h; done)
    rename_i h0
    split at h <;> try (cases h; done)
    rename_i h1
    refine ⟨_, ?_, h⟩
    simp only [stepU, enc_val, hx, hi, SV.v, h0, if_true, ba_size', h1, ba_toList']; rfl
  | slcS d x lo hi =>
    simp only [stepS] at h
    split at h <;> try (cases h; done)
    rename_i s hv
    obtain ⟨hh, h1, h2⟩ := bndK_v h
    obtain ⟨ll, h3, h4⟩ := bndK_v h2
    refine ⟨_, ?_, h4⟩
    simp only [stepU, enc_val, hv, SV.v, ba_size']
    have e1 : bnd s.length s.length (hi.map ts.enc.val) = some hh := h1
    have e2 : bnd hh 0 (lo.map ts.enc.val) = some ll := h3
    simp only [e1, e2, ba_extract]; rfl
  | cutS d n x lo hi =>
    simp only [stepS] at h
    split at h <;> try (cases h; done)
    rename_i e' s hv
    rw [cond_if] at h
    split at h <;> try (cases h; done)
    rename_i hw
    obtain ⟨hh, h1, h2⟩ := bndK_v h
    obtain ⟨ll, h3, h4⟩ := bndK_v h2
    refine ⟨_, ?_, h4⟩
    simp only [stepU, enc_val, hv, SV.v, List.length_map, Nat.eq_of_beq_eq_true hw, if_true]
    have e1 : bnd s.length s.length (hi.map ts.enc.val) = some hh := h1
    have e2 : bnd hh 0 (lo.map ts.enc.val) = some ll := h3
    have hw' := Nat.eq_of_beq_eq_true hw
    simp only [e1, e2, ← List.map_take, ← List.map_drop]
    rw [← hw']; rfl
  | cutT d n q lo hi =>
    simp only [stepS] at h
    split at h <;> try (cases h; done)
    rename_i e' s hv
    rw [cond_if] at h
    split at h <;> try (cases h; done)
    rename_i hw
    obtain ⟨hh, h1, h2⟩ := bndK_v h
    obtain ⟨ll, h3, h4⟩ := bndK_v h2
    refine ⟨_, ?_, h4⟩
    simp only [stepU, enc_v, hv, SV.v, List.length_map, Nat.eq_of_beq_eq_true hw, if_true]
    have e1 : bnd s.length s.length (hi.map ts.enc.val) = some hh := h1
    have e2 : bnd hh 0 (lo.map ts.enc.val) = some ll := h3
    have hw' := Nat.eq_of_beq_eq_true hw
    simp only [e1, e2, ← List.map_take, ← List.map_drop]
    rw [← hw']; rfl
  | app d n by_ x y =>
    simp only [stepS, cond_if] at h
    split at h <;> try (cases h; done)
    rename_i hc
    simp only [Bool.and_eq_true] at hc
    obtain ⟨hw, hcp, hlf, hne⟩ := hc
    have hw' := Nat.eq_of_beq_eq_true hw
    subst hw'
    split at h <;> try (cases h; done)
    rename_i l hl
    obtain ⟨s, o, n, es, h1, h2, h3, h4⟩ := svK_v h
    split at h4 <;> try (cases h4; done)
    rename_i o2 l2 hl2
    split at h4 <;> try (cases h4; done)
    rename_i hb
    have hv2 := asL_v hl2
    rw [h1] at hv2; cases hv2
    refine ⟨_, ?_, h4⟩
    simp only [stepU, enc_val, asL_v hl, h3, if_true, esLeaf_enc e l2 hlf, List.length_map, hb.1, hb.2, esCp_enc e l2 hcp, hne, List.map_append, dropU_v, List.map_cons, List.map_nil, SUpd.enc, SV.v]
    cases x <;> rfl
  | appT d n by_ x q =>
    simp only [stepS, cond_if] at h
    split at h <;> try (cases h; done)
    rename_i hc
    simp only [Bool.and_eq_true] at hc
    obtain ⟨hw, hlf, hne⟩ := hc
    have hw' := Nat.eq_of_beq_eq_true hw
    subst hw'
    split at h <;> try (cases h; done)
    rename_i l hl
    split at h <;> try (cases h; done)
    rename_i l2 hl2
    split at h <;> try (cases h; done)
    rename_i hb
    refine ⟨_, ?_, h⟩
    simp only [stepU, enc_val, enc_v, asL_v hl, asL_v hl2, if_true, esLeaf_enc e l2 hlf, List.length_map, hb.1, hb.2, hne, List.map_append, dropU_v, List.map_cons, List.map_nil, SUpd.enc, SV.v]
    cases x <;> rfl
  | storeZ x q n =>
    simp only [stepS] at h
    split at h <;> try (cases h; done)
    rename_i r p hr
    split at h <;> try (cases h; done)
    rename_i cs' hcs
    rw [cond_if] at h
    split at h <;> try (cases h; done)
    rename_i hc
    obtain ⟨cs, ys, v', h1, _, ⟨cs1, h2, h3⟩, h4, h5, h6⟩ := updK_v h
    cases h3
    refine ⟨_, ?_, h6⟩
    have e0 : (ts.enc.put q .hole).put q (ts.enc q).v.frz = ((ts.put q .hole).put q (ts.get q).v.frz).enc := by
      rw [enc_put, enc_put, SV.frz_v]; rfl
    have e1 : ((ts.put q SV.hole).put q (ts.get q).v.frz).enc.val (.t q) = (ts.get q).v.frz.v := by
      rw [enc_put]; simp [St.val, St.put]
    simp only [stepU, stZU]
    rw [e0]
    simp only [enc_res, hr, e1, SV.cells_v hcs, SV.cp_v, hc, if_true, vl_len, h4]
    rw [show (((ts.put q SV.hole).put q (ts.get q).v.frz).enc r).v = (((ts.put q SV.hole).put q (ts.get q).v.frz).get r).v.v from by rw [enc_v], h1]
    simp only [List.map_cons, List.map_nil, SUpd.enc, SV.v, ← h5, SV.frz_v, enc_v]
  | appC d n by_ q y tk =>
    simp only [stepS] at h
    split at h <;> try (cases h; done)
    · rename_i r hr
      simp only [cond_if] at h
      split at h <;> try (cases h; done)
      rename_i hrq
      split at h <;> try (cases h; done)
      rename_i hown
      obtain ⟨m, es, hc⟩ := ownSl_v hown
      obtain ⟨us, g1, g2⟩ := stepAS_v h
      refine ⟨_, ?_, g2⟩
      have hclm : ts.enc.clm q = some (r, true, .hole, (ts.get r).v.v) := by
        have hr' := hr
        rw [← enc_resH] at hr'
        simp only [St.resH] at hr'
        unfold St.clm
        split at hr' <;> try (cases hr'; done)
        · simp only [Option.some.injEq, Prod.mk.injEq] at hr'
          exact absurd (by rw [hr'.1]; simp) hrq
        rename_i z hz
        split at hr' <;> try (cases hr'; done)
        rename_i hg
        simp only [Option.some.injEq, Prod.mk.injEq] at hr'
        obtain ⟨e1, e2⟩ := hr'
        rw [hz]
        simp only
        rw [if_pos hg, if_pos (by rw [e1]; exact beq_false hrq), e2]
        simp only [e1, enc_v]
        rw [hc]
      simp only [stepU, appCU, hclm]
      have : (ts.enc.umod r true .hole).put q (ts.get r).v.v = ((ts.put r .hole).put q (ts.get r).v).enc := by rw [enc_put, enc_put]; rfl
      rw [this, g1]
      rfl
    rename_i r i p hr
    rw [cond_if] at h
    split at h <;> try (cases h; done)
    rename_i hrq
    obtain ⟨cs, ys, v', h1, hdum, ⟨cs1, h2, h3⟩, h4, h5, h6⟩ := updK_v h
    clear hdum
    split at h6 <;> try (cases h6; done)
    rename_i c
    rw [cond_if] at h6
    split at h6 <;> try (cases h6; done)
    rename_i hown
    cases h3
    obtain ⟨m, es, hc⟩ := ownSl_v hown
    obtain ⟨us, g1, g2⟩ := stepAS_v h6
    refine ⟨_, ?_, g2⟩
    have hclm : ts.enc.clm q = some (r, false, v'.v, c.v) := by
      have hr' := hr
      rw [← enc_resH] at hr'
      simp only [St.resH] at hr'
      unfold St.clm
      split at hr' <;> try (cases hr'; done)
      rename_i z hz
      split at hr' <;> try (cases hr'; done)
      rename_i hg
      simp only [Option.some.injEq, Prod.mk.injEq] at hr'
      obtain ⟨e1, e2⟩ := hr'
      rw [hz]
      simp only
      rw [if_pos hg, if_pos (by rw [e1]; exact beq_false hrq), e2]
      simp only [e1, enc_v]
      rw [h1]
      simp only [SV.v.go]
      rw [hc]
      simp only [← h5]
      rfl
    simp only [stepU, appCU, hclm]
    have : (ts.enc.umod r false v'.v).put q c.v = ((ts.tk r v').put q c).enc := by rw [enc_put, enc_tk]; rfl
    rw [this, g1]
    rfl
  | bld d zs ps =>
    simp only [stepS] at h
    split at h <;> try (cases h; done)
    rename_i l hl
    obtain ⟨us, acc, h1, h2⟩ := bldK_v h
    refine ⟨_, ?_, h2⟩
    simp only [stepU, ← zsS_v hl, h1, List.map_append, List.map_cons, List.map_nil, SUpd.enc, SV.v]
  | bldZ d kk zs ps =>
    simp only [stepS] at h
    split at h <;> try (cases h; done)
    rename_i l hl
    rw [cond_if] at h
    split at h <;> try (cases h; done)
    rename_i hw
    obtain ⟨us, acc, h1, h2⟩ := bldK_v h
    split at h2 <;> try (cases h2; done)
    rename_i l2 hl2
    refine ⟨_, ?_, h2⟩
    simp only [stepU, ← zsS_v hl, h1, List.map_append, List.map_cons, List.map_nil, SUpd.enc, SV.frz_v]
    simp only [SV.v, ← chunkS_v hl2, Nat.eq_of_beq_eq_true hw]
  | bldS d kk zs ps =>
    simp only [stepS] at h
    split at h <;> try (cases h; done)
    rename_i l hl
    rw [cond_if] at h
    split at h <;> try (cases h; done)
    rename_i hw
    obtain ⟨us, acc, h1, h2⟩ := bldK_v h
    split at h2 <;> try (cases h2; done)
    rename_i l2 hl2
    refine ⟨_, ?_, h2⟩
    simp only [stepU, ← zsS_v hl, h1, List.map_append, List.map_cons, List.map_nil, SUpd.enc, SV.v, ← chunkS_v hl2, Nat.eq_of_beq_eq_true hw]
  | mkS d by_ zs x y =>
    simp only [stepS] at h
    split at h <;> try (cases h; done)
    rename_i k1 l k2 l2 hx hy
    split at h <;> try (cases h; done)
    rename_i z hz
    split at h <;> try (cases h; done)
    rename_i z' hz'
    split at h <;> try (cases h; done)
    rename_i hc
    refine ⟨_, ?_, h⟩
    have hzz : zs = e.enc z' := by rw [← pk_v hz', zsS_v hz]
    simp only [stepU, enc_val, hx, hy, SV.v, hc.1, hc.2.1, hc.2.2.1, hc.2.2.2, if_true, hzz, enc_len, List.map_cons, List.map_nil, SUpd.enc, List.map_replicate]
  | mvN d n => exact ⟨_, rfl, h⟩
  | dead => cases h
  | stN x kk n =>
    simp only [stepS] at h
    split at h <;> try (cases h; done)
    rename_i r p hr
    rw [cond_if] at h
    split at h <;> try (cases h; done)
    rename_i hn
    obtain ⟨cs, ys, v', h1, _, ⟨cs1, h2, h3⟩, h4, h5, h6⟩ := updK_v h
    refine ⟨_, ?_, h6⟩
    cases h3
    have hn1 := Nat.eq_of_beq_eq_true hn
    subst hn1
    simp only [stepU, enc_res, hr, enc_v, h1, if_true, List.map_cons, List.map_nil, SUpd.enc, ← h5]; rfl
  | fld d x off n g =>
    simp only [stepS] at h
    split at h <;> try (cases h; done)
    rename_i cs hv
    rw [cond_if] at h
    split at h <;> try (cases h; done)
    rename_i hc
    simp only [Bool.and_eq_true] at hc
    refine ⟨_, ?_, h⟩
    simp only [stepU, enc_val, hv, SV.v]
    rw [show SV.v.go cs = vl cs from rfl, vl_len, if_pos (Nat.le_of_ble_eq_true hc.1), ← vl_drop, ← vl_take, cp_vl, if_pos hc.2, ← mkS_v]; rfl
  | fldT d r off n g =>
    simp only [stepS] at h
    split at h <;> try (cases h; done)
    rename_i cs hv
    rw [cond_if] at h
    split at h <;> try (cases h; done)
    rename_i hc
    refine ⟨_, ?_, h⟩
    simp only [stepU, enc_v, hv, SV.v]
    rw [show SV.v.go cs = vl cs from rfl, vl_len, if_pos (Nat.le_of_ble_eq_true hc), ← vl_drop, ← vl_take, ← mkS_v]; rfl
  | mm d mx x y =>
    simp only [stepS] at h
    split at h <;> try (cases h; done)
    rename_i kk a k2 b hx hy
    refine ⟨_, ?_, h⟩
    simp only [stepU, enc_val, hx, hy, SV.v, List.map_cons, List.map_nil, SUpd.enc, cond_if]
  | _ => simp [stepS] at h
end
end Go.Proofs.YtainknkfjekngaaDoor.Vm
