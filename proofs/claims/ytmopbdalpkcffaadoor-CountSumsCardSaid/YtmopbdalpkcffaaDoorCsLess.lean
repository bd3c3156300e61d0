/- Less and the document's Less, add and Line: runs with free numbers. -/
import Derived.Test.YtmopbdalpkcffaaDoorDee21
import Derived.Test.YtmopbdalpkcffaaDoorCsAlive
namespace Go.Proofs.YtmopbdalpkcffaaDoor
open Go Go.Dee Go.RowKit Go.Proofs
noncomputable def envU : Env := { P := Tryd.prog, orc := orcs [(17, uItoa), (18, uJoin), (27, uFmt10)], off := true }
theorem env_rf : OrcRf envA envU := by
  refine orcs_rf (l := [(17, oItoa, uItoa), (18, oJoin, uJoin), (27, oFmt10, uFmt10)]) rfl rfl fun x hx => ?_
  simp only [List.mem_cons, List.not_mem_nil, or_false] at hx
  rcases hx with rfl | rfl | rfl
  · exact uItoa_rf
  · exact uJoin_rf
  · exact uFmt10_rf
def tal (x : Nat → Int) : Value := .agg ((List.range 22).map fun i => .int .i64 (x i)).toArray
theorem tal_plain (x : Nat → Int) : noAddr (tal x) = true := by kernel_rfl
theorem run_calls (w : World) (htab : Lib.TabIs Tryd.prog w "internal/strconv.uint64pow10" .u64 Lib.pow10Tab) {k : Nat} {f : FuncId} {args : Array Value} {v : Value} {obl : List Prop}
    (h : outOf (call envU k f args (st0 Tryd.prog)) = some (v, obl)) (ha : noAddrs args = true) (hv : noAddr v = true) (hh : ∀ o ∈ obl, o) :
    Calls Tryd.prog f args w fun e w' => e = .returned v ∧ Below w.heap.size w w' :=
  off_calls (E := envA) (E' := envU) (envA_ok w htab) rfl rfl env_rf h ha hv hh
set_option maxRecDepth 100000 in
theorem less_run (x y : Nat → Int) : outOf (call envU 3000 7 #[tal x, tal y] (st0 Tryd.prog)) = some (tal fun i => IntKind.i64.wrap (x i - y i), []) := by kernel_rfl
set_option maxRecDepth 100000 in
theorem refLess_run (x y : Nat → Int) : outOf (call envU 3000 8 #[tal x, tal y] (st0 Tryd.prog)) = some (tal fun i => IntKind.i64.wrap (x i + IntKind.i64.wrap (-1 * y i)), []) := by kernel_rfl
set_option maxRecDepth 100000 in
theorem add_run (x y : Nat → Int) : outOf (call envU 3000 16 #[tal x, tal y, .int .i64 1] (st0 Tryd.prog)) = some (tal fun i => IntKind.i64.wrap (x i + IntKind.i64.wrap (1 * y i)), []) := by kernel_rfl
theorem less_calls (w : World) (htab : Lib.TabIs Tryd.prog w "internal/strconv.uint64pow10" .u64 Lib.pow10Tab) (x y : Nat → Int) :
    Calls Tryd.prog 7 #[tal x, tal y] w fun e w' => e = .returned (tal fun i => IntKind.i64.wrap (x i - y i)) ∧ Below w.heap.size w w' :=
  run_calls w htab (less_run x y) (by kernel_rfl) (tal_plain _) (by simp)
end Go.Proofs.YtmopbdalpkcffaaDoor
