/- Words for typed values, and the rules by which a proof walks. -/
import Derived.Test.YtainknkfjekngaaDoorVm11
import Derived.Laws.Strings
namespace Go.Proofs.YtainknkfjekngaaDoor.Vm
open Go
set_option linter.unusedVariables false
set_option linter.unusedSimpArgs false

/-- Bytes. -/
abbrev Str := List UInt8
def vs (s : Str) : V := .lit (.string (ba s))
def vi (n : Int) : V := .lit (.int .i64 n)
def vb (b : Bool) : V := .lit (.bool b)
def V.toInt : V → Int
  | .lit (.int _ n) => n
  | _ => 0
/-- A slice of strings, of ints. -/
def vss (own : Bool) (l : List Str) : V := .sl own 1 (l.map fun s => [vs s])
def vis (own : Bool) (l : List Int) : V := .sl own 1 (l.map fun n => [vi n])

@[simp] theorem ba_size (s : Str) : (ba s).size = s.length := by simp [ba, ByteArray.size]
theorem ba_toList (s : Str) : (ba s).toList = s := by
  rw [ByteArray.toList_eq]; simp [ba]
@[simp] theorem vi_toInt (n : Int) : (vi n).toInt = n := rfl

@[simp] theorem put_same (st : St) (d : Nat) (v : V) : ((st.put d v) d).v = v := by simp [St.put]
theorem put_v (st : St) (d i : Nat) (v : V) : ((st.put d v) i).v = if i = d then v else (st i).v := by simp only [St.put]; split <;> rfl
theorem put_ver (st : St) (d i : Nat) (v : V) : ((st.put d v) i).ver = if i = d then (st d).ver + 1 else (st i).ver := by simp only [St.put]; split <;> rfl
theorem put_hv (st : St) (d i : Nat) (v : V) : ((st.put d v) i).hv = if i = d then (st d).hv + 1 else (st i).hv := by simp only [St.put]; split <;> rfl
theorem mod_v (st : St) (d i : Nat) (v : V) : ((st.mod d v) i).v = if i = d then v else (st i).v := by simp only [St.mod]; split <;> rfl
theorem mod_ver (st : St) (d i : Nat) (v : V) : ((st.mod d v) i).ver = (st i).ver := by simp only [St.mod]; split <;> simp_all
theorem mod_hv (st : St) (d i : Nat) (v : V) : ((st.mod d v) i).hv = if i = d then (st d).hv + 1 else (st i).hv := by simp only [St.mod]; split <;> rfl
theorem init_v (args : List V) (i : Nat) : ((St.init args) i).v = args.getD i .hole := rfl
theorem init_ver (args : List V) (i : Nat) : ((St.init args) i).ver = 0 := rfl
theorem init_hv (args : List V) (i : Nat) : ((St.init args) i).hv = 0 := rfl
theorem val_t (st : St) (n : Nat) : st.val (.t n) = (st n).v := rfl
theorem val_c (st : St) (v : Value) : st.val (.c v) = .lit v := rfl
theorem val_nil (st : St) (n : Nat) : st.val (.nil n) = .sl true n [] := rfl
end Go.Proofs.YtainknkfjekngaaDoor.Vm
