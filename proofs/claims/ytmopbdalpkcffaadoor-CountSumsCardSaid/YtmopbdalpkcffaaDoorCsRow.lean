/- The tied card of lunettelaw40.CountSums holds: whatever the tallies, the law returns true, and its arguments read behind the call as they read before.
   Conditions: none beyond the card's own: the three listed tables of the library hold what the program's text lays (the given tie). -/
import Derived.Test.YtmopbdalpkcffaaDoorCsFin
import Derived.Test.YtmopbdalpkcffaaDoorLawRow
import Derived.Test.YtmopbdalpkcffaaDoorLeaves
import Derived.LaidSub
import Derived.Test.YtmopbdalpkcffaaDoorTie
import Derived.Test.YtmopbdalpkcffaaDoorCards
import Derived.SevenTiedAt
import Derived.Lay
import Derived.ProofKit
namespace Go.Proofs.YtmopbdalpkcffaaDoor
open Go Go.Dee Go.RowKit Go.Proofs Go.LawRow Go.ChangeShapes Go.WideShapes
theorem own : ownKnob Tryd.prog.godebug = none := by kernel_rfl
theorem tab_of_laid {W : World} (h : laidMetH Tryd.prog Rows.countSumsRow.laid W) : Tab W := by
  have h1 := laidMetH.filter (fun x => x.1 == "internal/strconv.uint64pow10") h
  have e : Rows.countSumsRow.laid.filter (fun x => x.1 == "internal/strconv.uint64pow10") = [("internal/strconv.uint64pow10", Lib.tabData .u64 Lib.pow10Tab)] := by kernel_rfl
  rw [e] at h1
  rw [MakeChecks.laidMetH_plain _ _ _ (by kernel_rfl)] at h1
  exact Lib.tabIs_of_head (g := 0) (t := 97) (e := 53) (n := 20) (by kernel_rfl) (by kernel_rfl) (by kernel_rfl) (by kernel_rfl) (by kernel_rfl) (by kernel_rfl) h1
theorem door_met (os : Os) (args : Array Value) : laidMetH Tryd.prog Rows.countSumsRow.laid ((World.doorLaid Tryd.prog 400 os).forCall (fun _ _ => 0) ⟨#[], args, []⟩).memory :=
  laidMetH_of_parts3 (fuel := 8) (laidMet_of_run' 8 (by kernel_rfl) (by kernel_rfl)) (by kernel_rfl) (by kernel_rfl)
def lf26 : List Lf := List.replicate 22 (.int .i64)
theorem lvs26 : lvs Tryd.prog 5 26 = some lf26 := by kernel_rfl
theorem cells26 : Tryd.prog.cellsOf 26 = 22 := by kernel_rfl
theorem i64_of {z : Int} (a : IntKind.i64.min ≤ z) (b : z ≤ IntKind.i64.max) : I64 z := by
  have h1 : IntKind.i64.min = -9223372036854775808 := by decide
  have h2 : IntKind.i64.max = 9223372036854775807 := by decide
  unfold I64
  omega
theorem tal_of {H : Type} {enc : TypeId × Value → H} {W : World} {v : Value} {d : DataW H} {p : List MemPlace} (hs : ∃ cs, v = .agg cs ∧ cs.size = Tryd.prog.cellsOf 26) (h : DataW.Trod enc Tryd.prog W 0 (fun _ => true) true 26 v d p) :
    ∃ x, v = tal x ∧ rng x := by
  obtain ⟨cs, rfl, hsz⟩ := hs
  obtain ⟨fuel, hf⟩ := h
  obtain ⟨h1, h2⟩ := fits_of_trod 5 26 lf26 lvs26 fuel _ _ hf
  have hc : ∀ j, j < 22 → ∃ z, cs.toList[j]? = some (.int .i64 z) ∧ I64 z := fun j hj => by
    obtain ⟨v, e, z, rfl, a, b⟩ := h2 j (.int .i64) (by rw [lf26, List.getElem?_replicate, if_pos hj])
    exact ⟨z, e, i64_of a b⟩
  refine ⟨fun j => match cs.toList[j]? with | some (.int _ z) => z | _ => 0, ?_, fun j hj => ?_⟩
  · unfold tal
    congr 1
    apply Array.ext'
    apply List.ext_getElem?
    intro j
    rcases Nat.lt_or_ge j 22 with hj | hj
    · obtain ⟨z, e, _⟩ := hc j hj
      simp only [List.getElem?_map, List.getElem?_range hj, Option.map_some]
      rw [e]
    · rw [List.getElem?_eq_none (by rw [show cs.toList.length = 22 from h1]; exact hj), List.getElem?_eq_none (by simpa using hj)]
  · obtain ⟨z, e, hz⟩ := hc j hj
    simp only [e]
    exact hz
set_option maxRecDepth 100000 in
theorem lvs22 : lvs Tryd.prog 6 22 = some [.sl 22 fun j => lf26.getD j .bool] := by kernel_rfl
set_option maxRecDepth 100000 in
theorem countSums_contract {H : Type} {enc : TypeId × Value → H} (W : World) (base : Nat) (args : Array Value) (ds : List (DataW H)) (ps : List MemPlace)
    (hval : ∀ (j : Nat) t v, Tryd.f3.params[j]? = some t → args[j]? = some v → Value.okWide Tryd.prog W .any base t v)
    (hA : DataW.TrodAll enc Tryd.prog W 0 (fun _ => true) true Tryd.f3.params.toList args.toList ds ps) (hT : Tab W) :
    Calls Tryd.prog 3 args W fun e W' => e = .returned (.bool true) ∧ Below W.heap.size W W' := by
  rw [Tryd.params3] at hA hval
  obtain ⟨v, v', d, d', p, p', rfl, rfl, rfl, h0, h1⟩ := trodAll_two hA
  obtain ⟨x, rfl, hx⟩ := tal_of (okWide_struct Tryd.underlying26 (hval 1 26 v' rfl rfl)) h1
  have hv := hval 0 22 v rfl rfl
  obtain ⟨a0, len, cap, rfl⟩ := okWide_slice Tryd.underlying22 hv
  obtain ⟨fuel, hf⟩ := h0
  obtain ⟨_, g2⟩ := fits_of_trod 6 22 [.sl 22 fun j => lf26.getD j .bool] lvs22 fuel _ _ hf
  obtain ⟨v, e, hok⟩ := g2 0 _ rfl
  have ev : v = .slice a0 len cap := by
    have : (Value.slice a0 len cap).cells.toList = [.slice a0 len cap] := rfl
    rw [this] at e
    simpa using e.symm
  subst ev
  rcases hok with hn | ⟨a, len', cap', hs, h1, h2, h3⟩
  · rw [hn]
    exact countSums_nil W hT hx
  · injection hs with e1 e2 e3
    subst e1 e2 e3
    have hcell : Cell.ok Tryd.prog W .any base 22 (.slice (some a) len cap) := by
      simpa only [Value.okWide, Tryd.underlying22, Cell.okWide] using hv
    simp only [Cell.ok, Tryd.underlying22] at hcell
    obtain ⟨_, _, _, hsp, row, cells, hsh, _⟩ := hcell
    have hlt : a.block < W.heap.size := by
      unfold World.shape? at hsh
      split at hsh
      · rename_i hh; exact heap_lt hh
      · simp at hsh
    obtain ⟨blk, off, spot⟩ := a
    simp only at hsp hlt
    subst hsp
    have hc : ∀ i j, i < cap → j < 22 → ∃ z, W.cell? ⟨blk, off + i * 22 + j, none⟩ = some (.int .i64 z) ∧ I64 z := fun i j hi hj => by
      obtain ⟨v, c, hv⟩ := h3 i j hi hj
      have el : lf26.getD j .bool = .int .i64 := by rw [List.getD_eq_getElem?_getD, lf26, List.getElem?_replicate, if_pos hj]; rfl
      have hv : LfOk W (lf26.getD j .bool) v := hv
      rw [el] at hv
      obtain ⟨z, rfl, q1, q2⟩ := hv
      refine ⟨z, ?_, i64_of q1 q2⟩
      rw [← c]
      unfold Addr.add
      split
      · rename_i h0; rw [show off + i * 22 + j = off from by omega]
      · rw [show off + (i * 22 + j) = off + i * 22 + j from by omega]
    have hX : RowsHere W [xd (fun i j => match W.cell? ⟨blk, off + i * 22 + j, none⟩ with | some (.int _ z) => z | _ => 0) len] [⟨blk, off, cap - len⟩] := by
      refine ⟨rfl, fun i y L hi hj => ?_⟩
      cases i with
      | succ i => simp at hi
      | zero =>
        simp only [List.getElem?_cons_zero, Option.some.injEq] at hi hj
        subst hi hj
        refine ⟨hlt, fun i j hi hj => ?_⟩
        obtain ⟨z, c, _⟩ := hc i j (Nat.lt_of_lt_of_le hi h1) hj
        refine ⟨_, c, ?_, fun ν => noAddr_rel rfl⟩
        simp only [c]
    have := countSums_calls W hT hX (fun k j hk hj => by
      obtain ⟨z, c, hz⟩ := hc k j (Nat.lt_of_lt_of_le hk h1) hj
      simp only [c]; exact hz) hx (by unfold maxLen at h2; omega)
    rw [show len + (⟨blk, off, cap - len⟩ : Dee.Loc).slack = cap from by show len + (cap - len) = cap; omega] at this
    exact this
set_option maxRecDepth 100000 in
theorem countSums_lifted (os : Os) (started : os.Started) (H : Type) (enc : TypeId × Value → H) :
    ReturnsInHanded {} Tryd.checked os 3 .any (fun w args => (Rows.countSumsSpec.pre enc Tryd.prog Tryd.f3 [] false w args ∧ laidMetH Tryd.prog Rows.countSumsRow.laid w) ∧ sizedMet enc Tryd.prog Tryd.f3 (OpenSpec.ofChange Rows.countSumsSpec) false w args)
      (Rows.countSumsSpec.post enc Tryd.prog Tryd.f3 false true false false) := by
  refine LawRow.returns (C := Tryd.checked) (tb := 4) own started (by kernel_rfl) Tryd.func3 (by kernel_rfl) (by kernel_rfl) rfl Tryd.underlying4 rfl (fun H ds h => ?_) enc
    (ChangeSpec.witness_shaped (enc := enc) (C := Tryd.checked) (os := os) (X := fun w _ => laidMetH Tryd.prog Rows.countSumsRow.laid w) false (World.doorLaid Tryd.prog 400 os) #[.slice none 0 0, tal fun _ => 0] 8 rfl (World.shaped_of_RefB (by kernel_rfl) (by kernel_rfl)) (by kernel_rfl) (by kernel_rfl) (by kernel_rfl) (door_met os _)) fun W base args ds ps hval hA hlt hL => countSums_contract W base args ds ps hval hA (tab_of_laid hL)
  match ds, h with
  | [d1, d2], _ => exact ⟨rfl, rfl, rfl⟩
theorem countSums_said : Rows.CountSumsSaid :=
  OpenClaim.holds_of_wide 3 Tryd.f3 rfl rfl rfl rfl rfl rfl rfl ⟨rfl, rfl, rfl, rfl, rfl⟩ rfl rfl rfl rfl rfl (by kernel_rfl) Tryd.func3 (by kernel_rfl)
    (of_decide_eq_true (by kernel_rfl)) (by unfold Func.isWrapper; first | (rw [if_pos (by decide +kernel)]; kernel_rfl) | (rw [if_neg (by decide +kernel)]; exact ⟨rfl, rfl⟩))
    (fun os started H enc _ => countSums_lifted os started H enc)
theorem countSums_card : Rows.CountSumsCardSaid :=
  Claim7.holds_tied_plain_at .later [] [.data, .data, .data] true (true, "402897aa00efee9f0a066fc9dee0f51cc6d1592b712b871cef867ddc9e6475ab") false
    countSums_said (fun _ h => by cases h) (by kernel_rfl) (fun _ h => by cases h) countSums_row_tie rfl ⟨rfl, rfl⟩ (by kernel_rfl) rfl
    (fun f fn hf hfn => by
      obtain rfl : f = 3 := Option.some.inj ((show Tryd.prog.funcNamed "lunette/lunettelaw40.CountSums" = some 3 by kernel_rfl).symm.trans hf) |>.symm
      obtain rfl : fn = Tryd.f3 := (Option.some.inj (Tryd.func3.symm.trans hfn)).symm
      exact ⟨by kernel_rfl, fun j t ht => by
        rw [Tryd.params3] at ht
        have hm : t ∈ [22, 26] := by simpa using Array.mem_of_getElem? ht
        have hall : ([22, 26].all fun u => !Tryd.prog.wantsStandIn u) = true := by kernel_rfl
        exact (show Tryd.prog.wantsStandIn t = false by simpa using List.all_eq_true.1 hall t hm)⟩)
    (by kernel_rfl)
#print axioms countSums_card
end Go.Proofs.YtmopbdalpkcffaaDoor
