/-
  Words for printed functions: comparisons without instances; loops that count up.
-/
import Derived.Test.YtgpjfmjceamonaaDoorEv20
namespace Go.Ev

def blt (a b : Int) : Bool := decide (a < b)
def ble (a b : Int) : Bool := decide (a ≤ b)
def beq (a b : Int) : Bool := a == b
def bne (a b : Int) : Bool := a != b
def beqB (a b : Bool) : Bool := a == b
def beqS (a b : ByteArray) : Bool := a.toList == b.toList
/-- Is i an index of a row of n? -/
def inR (i n : Int) : Bool := decide (0 ≤ i) && decide (i < n)
def inE (i n : Int) : Bool := decide (0 ≤ i) && decide (i ≤ n)
def nle (a b : Nat) : Bool := decide (a ≤ b)
def imin (a b : Int) : Int := if b < a then b else a
def wr (n : Int) : Int := IntKind.wrap .i64 n

theorem wr_eq {n : Int} (h0 : -9223372036854775808 ≤ n) (h1 : n < 9223372036854775808) : wr n = n := by
  unfold wr
  rw [IntKind.wrap_i64]
  omega
theorem blt_true {a b : Int} (h : a < b) : blt a b = true := decide_eq_true h
theorem blt_false {a b : Int} (h : b ≤ a) : blt a b = false := decide_eq_false (by omega)
theorem ble_true {a b : Int} (h : a ≤ b) : ble a b = true := decide_eq_true h
theorem ble_false {a b : Int} (h : b < a) : ble a b = false := decide_eq_false (by omega)
theorem inR_true {i n : Int} (h : 0 ≤ i) (h' : i < n) : inR i n = true := by
  unfold inR
  rw [decide_eq_true h, decide_eq_true h']
  rfl
theorem inE_true {i n : Int} (h : 0 ≤ i) (h' : i ≤ n) : inE i n = true := by
  unfold inE
  rw [decide_eq_true h, decide_eq_true h']
  rfl
theorem nle_true {a b : Nat} (h : a ≤ b) : nle a b = true := decide_eq_true h
theorem beq_iff {a b : Int} : beq a b = true ↔ a = b := by
  unfold beq
  exact beq_iff_eq
theorem bne_iff {a b : Int} : bne a b = true ↔ a ≠ b := by
  unfold bne
  exact bne_iff_ne
theorem blt_iff {a b : Int} : blt a b = true ↔ a < b := decide_eq_true_iff
theorem ble_iff {a b : Int} : ble a b = true ↔ a ≤ b := decide_eq_true_iff
theorem beq_self (a : Int) : beq a a = true := beq_iff.2 rfl
theorem bne_self (a : Int) : bne a a = false := by
  unfold bne
  exact bne_self_eq_false a
theorem beqB_self (a : Bool) : beqB a a = true := by cases a <;> rfl
theorem beqS_self (a : ByteArray) : beqS a a = true := by
  unfold beqS
  exact beq_self_eq_true _

end Go.Ev
