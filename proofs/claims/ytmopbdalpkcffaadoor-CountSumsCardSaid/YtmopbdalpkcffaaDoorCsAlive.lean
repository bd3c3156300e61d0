/- The law's alive, by the executor. -/
import Derived.Test.YtmopbdalpkcffaaDoorDee19
import Derived.Test.YtmopbdalpkcffaaDoorTrydShelf
import Derived.Test.YtmopbdalpkcffaaDoorRows
namespace Go.Proofs.YtmopbdalpkcffaaDoor
open Go Go.Dee Go.RowKit Go.Proofs
noncomputable def envA : Env := { P := Tryd.prog, orc := orcs [(17, oItoa), (18, oJoin), (27, oFmt10)] }
theorem envA_ok' {c : Dee.Start} (hcl : NoOwn c) (htab : Lib.TabIs Tryd.prog c.w "internal/strconv.uint64pow10" .u64 Lib.pow10Tab) : envA.Ok c := by
  refine orcs_ok (l := [(17, oItoa), (18, oJoin), (27, oFmt10)]) rfl (by kernel_rfl) rfl fun x hx => ?_
  simp only [List.mem_cons, List.not_mem_nil, or_false] at hx
  rcases hx with rfl | rfl | rfl
  · exact ⟨oItoa_lcl, oItoa_ok (E := envA) hcl htab fun n h0 h1 w h => Tryd.strconv_Itoa n h0 h1 w h⟩
  · exact ⟨oJoin_lcl, oJoin_ok (E := envA) (fun a c sep w => Tryd.strings_Join_none a c sep w) fun bk o c xs sep w h1 h2 h3 h4 h5 => Tryd.strings_Join bk o c xs sep w h1 h2 h3 h4 h5⟩
  · exact ⟨oFmt10_lcl, oFmt10_ok (E := envA) hcl htab fun n h0 h1 w h => Tryd.strconv_FormatInt_10 n h0 h1 w h⟩
theorem envA_ok (w : World) (htab : Lib.TabIs Tryd.prog w "internal/strconv.uint64pow10" .u64 Lib.pow10Tab) : envA.Ok (start0 Tryd.prog w) := envA_ok' (clean0 _ _) htab
set_option maxRecDepth 100000 in
theorem alive_run : outB (call envA 3000 4 #[] (st0 Tryd.prog)) = true := by kernel_rfl
theorem alive_calls (w : World) (htab : Lib.TabIs Tryd.prog w "internal/strconv.uint64pow10" .u64 Lib.pow10Tab) :
    Calls Tryd.prog 4 #[] w fun e w' => e = .returned (.bool true) ∧ Below w.heap.size w w' :=
  closed_true (E := envA) (envA_ok w htab) alive_run
#print axioms alive_calls
end Go.Proofs.YtmopbdalpkcffaaDoor
