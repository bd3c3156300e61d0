/- The plain law of the sums. -/
import Derived.Test.YtmopbdalpkcffaaDoorCsSum
namespace Go.Proofs.YtmopbdalpkcffaaDoor
open Go Go.Dee Go.RowKit Go.Proofs
theorem wrap_q (z : Int) : ∃ q : Int, IntKind.i64.wrap z = z - q * 18446744073709551616 ∧ -9223372036854775808 ≤ IntKind.i64.wrap z ∧ IntKind.i64.wrap z ≤ 9223372036854775807 := by
  have e : IntKind.i64.wrap z = if z % 18446744073709551616 ≥ 9223372036854775808 then z % 18446744073709551616 - 18446744073709551616 else z % 18446744073709551616 := by
    simp [IntKind.wrap, IntKind.signed, IntKind.bits]
  rw [e]
  split
  · exact ⟨z / 18446744073709551616 + 1, by omega, by omega, by omega⟩
  · exact ⟨z / 18446744073709551616, by omega, by omega, by omega⟩
theorem wrap_in (z : Int) : I64 (IntKind.i64.wrap z) := by obtain ⟨q, _, a, b⟩ := wrap_q z; exact ⟨a, b⟩
theorem wrap_id {z : Int} (h : I64 z) : IntKind.i64.wrap z = z := by obtain ⟨q, a, b, c⟩ := wrap_q z; unfold I64 at h; omega
theorem lt22 {j : Nat} (h : j < 22) : j = 0 ∨ j = 1 ∨ j = 2 ∨ j = 3 ∨ j = 4 ∨ j = 5 ∨ j = 6 ∨ j = 7 ∨ j = 8 ∨ j = 9 ∨ j = 10 ∨ j = 11 ∨ j = 12 ∨ j = 13 ∨ j = 14 ∨ j = 15 ∨ j = 16 ∨ j = 17 ∨ j = 18 ∨ j = 19 ∨ j = 20 ∨ j = 21 := by omega
theorem zT_zero {x : Nat → Int} (h : zT x = true) {j : Nat} (hj : j < 22) : x j = 0 := by
  simp only [zT, zK, andL, Bool.and_eq_true, beq_iff_eq, and_true] at h
  obtain ⟨⟨a0, a1, a2, a3⟩, ⟨a4, a5, a6, a7, a8, a9, a10, a11, a12, a13, a14, a15, a16, a17, a18, a19⟩, a20, a21⟩ := h
  rcases lt22 hj with rfl | rfl | rfl | rfl | rfl | rfl | rfl | rfl | rfl | rfl | rfl | rfl | rfl | rfl | rfl | rfl | rfl | rfl | rfl | rfl | rfl | rfl <;> assumption
theorem sum_ref {X : Nat → Nat → Int} {n : Nat} (hX : ∀ k j, k < n → j < 22 → I64 (X k j)) : ∀ k, k ≤ n → ∀ j, j < 22 → sumS X k j = refS X k j ∧ I64 (refS X k j) := by
  intro k
  induction k with
  | zero => intro _ j _; exact ⟨rfl, by simp [refS, I64]⟩
  | succ k ih =>
    intro hk j hj
    obtain ⟨h1, h2⟩ := ih (by omega) j hj
    have h3 := hX k j (by omega) hj
    have h4 : IntKind.i64.wrap (1 * X k j) = X k j := by rw [Int.one_mul]; exact wrap_id h3
    simp only [sumS, refS, h4]
    refine ⟨?_, wrap_in _⟩
    split
    · rename_i hz
      rw [h1, zT_zero hz hj, Int.add_zero, wrap_id h2]
    · show IntKind.i64.wrap (sumS X k j + X k j) = _
      rw [h1]
theorem less_ref (s x : Int) : IntKind.i64.wrap (s - x) = IntKind.i64.wrap (s + IntKind.i64.wrap (-1 * x)) := by
  obtain ⟨q1, a1, b1, c1⟩ := wrap_q (s - x)
  obtain ⟨q2, a2, b2, c2⟩ := wrap_q (-1 * x)
  obtain ⟨q3, a3, b3, c3⟩ := wrap_q (s + IntKind.i64.wrap (-1 * x))
  omega
/-- What was taken off is added. -/
theorem back {Z : Nat → Nat → Int} {s x : Nat → Int} (h0 : ∀ j, j < 22 → Z 0 j = IntKind.i64.wrap (s j - x j)) (h1 : ∀ j, j < 22 → Z 1 j = x j) (hs : ∀ j, j < 22 → I64 (s j)) (hx : ∀ j, j < 22 → I64 (x j)) :
    ∀ j, j < 22 → sumS Z 2 j = s j := by
  intro j hj
  have hr : ∀ k j, k < 2 → j < 22 → I64 (Z k j) := fun k j hk hj => by
    obtain rfl | rfl : k = 0 ∨ k = 1 := by omega
    · rw [h0 j hj]; exact wrap_in _
    · rw [h1 j hj]; exact hx j hj
  rw [(sum_ref hr 2 (Nat.le_refl _) j hj).1]
  simp only [refS, h0 j hj, h1 j hj]
  have hs' := hs j hj
  have hx' := hx j hj
  unfold I64 at hs' hx'
  obtain ⟨q1, a1, b1, c1⟩ := wrap_q (s j - x j)
  obtain ⟨q2, a2, b2, c2⟩ := wrap_q (1 * IntKind.i64.wrap (s j - x j))
  obtain ⟨q3, a3, b3, c3⟩ := wrap_q (0 + IntKind.i64.wrap (1 * IntKind.i64.wrap (s j - x j)))
  obtain ⟨q4, a4, b4, c4⟩ := wrap_q (1 * x j)
  obtain ⟨q5, a5, b5, c5⟩ := wrap_q (IntKind.i64.wrap (0 + IntKind.i64.wrap (1 * IntKind.i64.wrap (s j - x j))) + IntKind.i64.wrap (1 * x j))
  omega
theorem tals_congr {x y : Nat → Int} (h : ∀ j, j < 22 → x j = y j) : tals x = tals y := by
  unfold tals
  congr 1
  exact List.map_congr_left fun i hi => by rw [h i (List.mem_range.1 hi)]
def andE (x y : Nat → Int) : List Nat → Bool
  | [] => true
  | i :: l => (x i == y i) && andE x y l
def zE (x y : Nat → Int) : Bool := andE x y [0, 1, 2, 3] && (andE x y [4,5,6,7,8,9,10,11,12,13,14,15,16,17,18,19] && ((x 20 == y 20) && ((x 21 == y 21) && true)))
set_option maxRecDepth 100000 in
theorem eqE_V (x y : Nat → Int) : eqV Tryd.prog Op.maxDepth 26 (.agg (tals x)) (.agg (tals y)) = some (zE x y) := by kernel_rfl
theorem andE_self (x : Nat → Int) : ∀ l, andE x x l = true
  | [] => rfl
  | i :: l => by simp [andE, andE_self x l]
theorem eq_of {a b : Operand} {x y : Nat → Int} (h : ∀ j, j < 22 → x j = y j) : CmpIs Tryd.prog .eql 26 a b (.agg (tals x)) (.agg (tals y)) true := by
  rw [tals_congr h]
  exact cmp_eq (by kernel_rfl) ((eqE_V y y).trans (by simp [zE, andE_self]))
end Go.Proofs.YtmopbdalpkcffaaDoor
