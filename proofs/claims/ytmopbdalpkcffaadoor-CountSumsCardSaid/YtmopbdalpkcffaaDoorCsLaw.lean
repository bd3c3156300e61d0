/- The plain law of the lines. -/
import Derived.Test.YtmopbdalpkcffaaDoorCsLine
namespace Go.Proofs.YtmopbdalpkcffaaDoor
open Go Go.Dee Go.RowKit Go.Proofs
theorem bs_append (a b : List UInt8) : bs a ++ bs b = bs (a ++ b) := by
  apply ByteArray.ext
  simp [bs, ByteArray.data_append]
theorem bs_list (a : List UInt8) : (bs a).data.toList = a := by simp [bs]
theorem bs_size (a : List UInt8) : (bs a).size = a.length := by simp [bs, ByteArray.size]
def rowTail (x : Nat → Int) (l : List Nat) : List UInt8 := (l.map fun j => 44 :: dItoa (x j)).flatten
def rowB (x : Nat → Int) : List Nat → List UInt8
  | [] => []
  | i :: l => dItoa (x i) ++ rowTail x l
theorem refRow_fold (x : Nat → Int) : ∀ (l : List Nat) (a : List UInt8), l.foldl (fun s j => (s ++ bs [44]) ++ bs (dItoa (x j))) (bs a) = bs (a ++ rowTail x l) := by
  intro l
  induction l with
  | nil => intro a; simp [rowTail]
  | cons j l ih =>
    intro a
    rw [List.foldl_cons, bs_append, bs_append, ih]
    simp [rowTail, List.append_assoc]
theorem refRow_eq (x : Nat → Int) (l : List Nat) : refRow x l = bs (rowB x l) := by
  cases l with
  | nil => rfl
  | cons i l =>
    simp only [refRow, rowB]
    rw [bs_append, List.nil_append, refRow_fold]
theorem join_cons (a : List UInt8) (r : List (List UInt8)) (sep : List UInt8) : Lib.join (a :: r) sep = a ++ (r.map (sep ++ ·)).flatten := by
  induction r generalizing a with
  | nil => simp [Lib.join_one]
  | cons b r ih =>
    have h : Lib.join (a :: b :: r) sep = a ++ sep ++ Lib.join (b :: r) sep := by
      simp [Lib.join, List.intercalate, List.intersperse]
    rw [h, ih]
    simp [List.append_assoc]
theorem rowS_eq (x : Nat → Int) (l : List Nat) : rowS x l = bs (rowB x l) := by
  cases l with
  | nil => rfl
  | cons i l =>
    unfold rowS joinS rowL
    rw [List.map_map, List.map_cons, join_cons]
    simp only [Function.comp_def, bs_list, List.map_map, rowB, rowTail]
    rfl
theorem line_eq (x : Nat → Int) : lineS x = refLineS x := by
  unfold lineS refLineS joinS lineL
  simp only [rowS_eq, refRow_eq, bs_append, List.map_cons, List.map_nil, bs_list, join_cons]
  simp [List.append_assoc]
theorem digs_len : ∀ (f u : Nat), (digs f u).length ≤ f := by
  intro f
  induction f with
  | zero => intro u; simp [digs]
  | succ f ih =>
    intro u
    simp only [digs]
    split
    · simp
    · have := ih (u / 10)
      simp; omega
theorem dItoa_len (n : Int) : (dItoa n).length ≤ 21 := by
  unfold dItoa
  split
  · have := digs_len 20 n.natAbs; simp; omega
  · have := digs_len 20 n.toNat; omega
theorem rowTail_len (x : Nat → Int) (l : List Nat) : (rowTail x l).length ≤ 22 * l.length := by
  induction l with
  | nil => simp [rowTail]
  | cons j l ih =>
    have := dItoa_len (x j)
    simp only [rowTail, List.map_cons, List.flatten_cons, List.length_append, List.length_cons] at ih ⊢
    omega
theorem rowB_len (x : Nat → Int) (l : List Nat) : (rowB x l).length ≤ 22 * l.length := by
  cases l with
  | nil => simp [rowB]
  | cons i l =>
    have h1 := dItoa_len (x i)
    have h2 := rowTail_len x l
    simp only [rowB, List.length_append, List.length_cons]
    omega
theorem catOk_of {a b : List UInt8} (h : a.length + b.length ≤ 1000000) : CatOk (bs a) (bs b) := by
  unfold CatOk
  rw [bs_size, bs_size]
  have : IntKind.i64.max = 9223372036854775807 := by decide
  rw [this]
  omega
end Go.Proofs.YtmopbdalpkcffaaDoor
