/- Line and the document's Line: runs with free numbers. -/
import Derived.Test.YtmopbdalpkcffaaDoorCsLess
namespace Go.Proofs.YtmopbdalpkcffaaDoor
open Go Go.Dee Go.RowKit Go.Proofs
def bs (l : List UInt8) : ByteArray := ⟨l.toArray⟩
def joinS (xs : List ByteArray) (sep : List UInt8) : ByteArray := bs (Lib.join (xs.map (·.data.toList)) sep)
def rowL (x : Nat → Int) (l : List Nat) : List ByteArray := l.map fun i => bs (dItoa (x i))
def rowS (x : Nat → Int) (l : List Nat) : ByteArray := joinS (rowL x l) [44]
def calls : List Nat := [4,5,6,7,8,9,10,11,12,13,14,15,16,17,18,19]
def lineL (x : Nat → Int) : List ByteArray := [bs [107] ++ rowS x [0,1,2,3], bs [99] ++ rowS x calls, bs [103] ++ rowS x [20], bs [98] ++ rowS x [21]]
def lineS (x : Nat → Int) : ByteArray := joinS (lineL x) [32]
def lenP (xs : List ByteArray) (sep : List UInt8) : Prop := (Lib.join (xs.map (·.data.toList)) sep).length ≤ 140737488355328
def partO (c : UInt8) (x : Nat → Int) (l : List Nat) : List Prop := [CatOk (bs [c]) (rowS x l), lenP (rowL x l) [44]] ++ (l.reverse.map fun i => I64 (x i))
def lineO (x : Nat → Int) : List Prop := [lenP (lineL x) [32]] ++ partO 98 x [21] ++ partO 103 x [20] ++ partO 99 x calls ++ partO 107 x [0,1,2,3]
set_option maxRecDepth 100000 in
theorem line_run (x : Nat → Int) : outOf (call envU 3000 9 #[tal x] (st0 Tryd.prog)) = some (.string (lineS x), lineO x) := by kernel_rfl
/-- The document's row: numbers, a comma between two. -/
def refRow (x : Nat → Int) : List Nat → ByteArray
  | [] => bs []
  | i :: l => l.foldl (fun s j => (s ++ bs [44]) ++ bs (dItoa (x j))) (bs [] ++ bs (dItoa (x i)))
def refLineS (x : Nat → Int) : ByteArray := ((((((bs [107] ++ refRow x [0,1,2,3]) ++ bs [32, 99]) ++ refRow x calls) ++ bs [32, 103]) ++ refRow x [20]) ++ bs [32, 98]) ++ refRow x [21]
def resV (r : Option (Value × List Prop)) : Option Value := r.map (·.1)
set_option maxRecDepth 100000 in
theorem refLine_val (x : Nat → Int) : resV (outOf (call envU 3000 10 #[tal x] (st0 Tryd.prog))) = some (.string (refLineS x)) := by kernel_rfl
/-- What a row puts off, the newest first. -/
def refStep (x : Nat → Int) (p : ByteArray × List Prop) (j : Nat) : ByteArray × List Prop :=
  ((p.1 ++ bs [44]) ++ bs (dItoa (x j)), CatOk (p.1 ++ bs [44]) (bs (dItoa (x j))) :: I64 (x j) :: CatOk p.1 (bs [44]) :: p.2)
def refRowO (x : Nat → Int) : List Nat → List Prop
  | [] => []
  | i :: l => (l.foldl (refStep x) (bs [] ++ bs (dItoa (x i)), [CatOk (bs []) (bs (dItoa (x i))), I64 (x i)])).2
def r1 (x : Nat → Int) : ByteArray := bs [107] ++ refRow x [0,1,2,3]
def r2 (x : Nat → Int) : ByteArray := r1 x ++ bs [32, 99]
def r3 (x : Nat → Int) : ByteArray := r2 x ++ refRow x calls
def r4 (x : Nat → Int) : ByteArray := r3 x ++ bs [32, 103]
def r5 (x : Nat → Int) : ByteArray := r4 x ++ refRow x [20]
def r6 (x : Nat → Int) : ByteArray := r5 x ++ bs [32, 98]
def refLineO (x : Nat → Int) : List Prop :=
  [CatOk (r6 x) (refRow x [21])] ++ refRowO x [21] ++ [CatOk (r5 x) (bs [32, 98]), CatOk (r4 x) (refRow x [20])] ++ refRowO x [20] ++
  [CatOk (r3 x) (bs [32, 103]), CatOk (r2 x) (refRow x calls)] ++ refRowO x calls ++ [CatOk (r1 x) (bs [32, 99]), CatOk (bs [107]) (refRow x [0,1,2,3])] ++ refRowO x [0,1,2,3]
set_option maxRecDepth 100000 in
theorem refLine_run (x : Nat → Int) : outOf (call envU 3000 10 #[tal x] (st0 Tryd.prog)) = some (.string (refLineS x), refLineO x) := by kernel_rfl
end Go.Proofs.YtmopbdalpkcffaaDoor
