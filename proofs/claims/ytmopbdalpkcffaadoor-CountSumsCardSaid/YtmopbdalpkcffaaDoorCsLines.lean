/- Both lines, as calls. -/
import Derived.Test.YtmopbdalpkcffaaDoorCsLaw
namespace Go.Proofs.YtmopbdalpkcffaaDoor
open Go Go.Dee Go.RowKit Go.Proofs
theorem bs_inj {a b : List UInt8} (h : bs a = bs b) : a = b := by rw [← bs_list a, h, bs_list]
theorem row_join (x : Nat → Int) (l : List Nat) : Lib.join ((rowL x l).map (·.data.toList)) [44] = rowB x l := bs_inj (rowS_eq x l)
theorem lenP_row (x : Nat → Int) (l : List Nat) (hl : l.length ≤ 16) : lenP (rowL x l) [44] := by
  unfold lenP
  rw [row_join]
  have := rowB_len x l
  omega
theorem lenP_line (x : Nat → Int) : lenP (lineL x) [32] := by
  unfold lenP lineL
  simp only [rowS_eq, bs_append, List.map_cons, List.map_nil, bs_list, join_cons]
  have h0 := rowB_len x [0,1,2,3]
  have h1 := rowB_len x calls
  have h2 := rowB_len x [20]
  have h3 := rowB_len x [21]
  simp only [List.length_append, List.length_cons, List.length_nil, List.map_cons, List.map_nil, List.flatten_cons, List.flatten_nil, calls] at h0 h1 h2 h3 ⊢
  omega
theorem partO_holds {x : Nat → Int} (h : ∀ i, i < 22 → I64 (x i)) (c : UInt8) {l : List Nat} (hl : l.length ≤ 16) (hi : ∀ i ∈ l, i < 22) : ∀ o ∈ partO c x l, o := by
  intro o ho
  simp only [partO, List.cons_append, List.nil_append, List.mem_cons, List.mem_map, List.mem_reverse] at ho
  rcases ho with rfl | rfl | ⟨i, hm, rfl⟩
  · rw [rowS_eq]
    refine catOk_of ?_
    have := rowB_len x l
    simp only [List.length_cons, List.length_nil]
    omega
  · exact lenP_row x l hl
  · exact h i (hi i hm)
theorem lineO_holds {x : Nat → Int} (h : ∀ i, i < 22 → I64 (x i)) : ∀ o ∈ lineO x, o := by
  intro o ho
  simp only [lineO, List.mem_append, List.mem_singleton] at ho
  rcases ho with (((rfl | ho) | ho) | ho) | ho
  · exact lenP_line x
  · exact partO_holds h 98 (by simp) (by simp) o ho
  · exact partO_holds h 103 (by simp) (by simp) o ho
  · exact partO_holds h 99 (by simp [calls]) (by simp [calls]) o ho
  · exact partO_holds h 107 (by simp) (by simp) o ho
theorem line_calls (w : World) (htab : Lib.TabIs Tryd.prog w "internal/strconv.uint64pow10" .u64 Lib.pow10Tab) {x : Nat → Int} (h : ∀ i, i < 22 → I64 (x i)) :
    Calls Tryd.prog 9 #[tal x] w fun e w' => e = .returned (.string (lineS x)) ∧ Below w.heap.size w w' :=
  run_calls w htab (line_run x) (by kernel_rfl) rfl (lineO_holds h)

theorem refStep_fold (x : Nat → Int) (h : ∀ i, i < 22 → I64 (x i)) : ∀ (l : List Nat) (a : List UInt8) (O : List Prop), (∀ i ∈ l, i < 22) → (∀ o ∈ O, o) → a.length + 22 * l.length ≤ 900000 →
    ∀ o ∈ (l.foldl (refStep x) (bs a, O)).2, o := by
  intro l
  induction l with
  | nil => intro a O _ hO _; exact hO
  | cons j l ih =>
    intro a O hi hO hn
    have hd := dItoa_len (x j)
    simp only [List.length_cons] at hn
    rw [List.foldl_cons]
    simp only [refStep]
    rw [bs_append, bs_append]
    refine ih _ _ (fun i h => hi i (List.mem_cons_of_mem _ h)) ?_ (by simp only [List.length_append, List.length_cons, List.length_nil]; omega)
    intro o ho
    simp only [List.mem_cons] at ho
    rcases ho with rfl | rfl | rfl | ho
    · exact catOk_of (by simp only [List.length_append, List.length_cons, List.length_nil]; omega)
    · exact h j (hi j (by simp))
    · exact catOk_of (by simp only [List.length_cons, List.length_nil]; omega)
    · exact hO o ho
theorem refRowO_holds {x : Nat → Int} (h : ∀ i, i < 22 → I64 (x i)) {l : List Nat} (hl : l.length ≤ 16) (hi : ∀ i ∈ l, i < 22) : ∀ o ∈ refRowO x l, o := by
  cases l with
  | nil => intro o ho; simp [refRowO] at ho
  | cons i l =>
    have hd := dItoa_len (x i)
    simp only [List.length_cons] at hl
    simp only [refRowO]
    rw [bs_append, List.nil_append]
    refine refStep_fold x h l _ _ (fun j hj => hi j (List.mem_cons_of_mem _ hj)) ?_ (by omega)
    intro o ho
    simp only [List.mem_cons, List.not_mem_nil, or_false] at ho
    rcases ho with rfl | rfl
    · exact catOk_of (by simp only [List.length_nil]; omega)
    · exact h i (hi i (by simp))
theorem refLineO_holds {x : Nat → Int} (h : ∀ i, i < 22 → I64 (x i)) : ∀ o ∈ refLineO x, o := by
  have h0 := rowB_len x [0,1,2,3]
  have h1 := rowB_len x calls
  have h2 := rowB_len x [20]
  have h3 := rowB_len x [21]
  simp only [List.length_cons, List.length_nil, calls] at h0 h1 h2 h3
  intro o ho
  simp only [refLineO, r6, r5, r4, r3, r2, r1, refRow_eq, bs_append, List.mem_append, List.mem_cons, List.not_mem_nil, or_false] at ho
  have c : ∀ {a b : List UInt8}, o = CatOk (bs a) (bs b) → a.length + b.length ≤ 1000000 → o := fun e q => e ▸ catOk_of q
  rcases ho with ((((((ho | ho) | (ho | ho)) | ho) | (ho | ho)) | ho) | (ho | ho)) | ho
  · exact c ho (by simp only [List.length_append, List.length_cons, List.length_nil, calls]; omega)
  · exact refRowO_holds h (by simp) (by simp) o ho
  · exact c ho (by simp only [List.length_append, List.length_cons, List.length_nil, calls]; omega)
  · exact c ho (by simp only [List.length_append, List.length_cons, List.length_nil, calls]; omega)
  · exact refRowO_holds h (by simp) (by simp) o ho
  · exact c ho (by simp only [List.length_append, List.length_cons, List.length_nil, calls]; omega)
  · exact c ho (by simp only [List.length_append, List.length_cons, List.length_nil, calls]; omega)
  · exact refRowO_holds h (by simp [calls]) (by simp [calls]) o ho
  · exact c ho (by simp only [List.length_append, List.length_cons, List.length_nil, calls]; omega)
  · exact c ho (by simp only [List.length_append, List.length_cons, List.length_nil, calls]; omega)
  · exact refRowO_holds h (by simp) (by simp) o ho
theorem refLine_calls (w : World) (htab : Lib.TabIs Tryd.prog w "internal/strconv.uint64pow10" .u64 Lib.pow10Tab) {x : Nat → Int} (h : ∀ i, i < 22 → I64 (x i)) :
    Calls Tryd.prog 10 #[tal x] w fun e w' => e = .returned (.string (lineS x)) ∧ Below w.heap.size w w' := by
  rw [line_eq]
  exact run_calls w htab (refLine_run x) (by kernel_rfl) rfl (refLineO_holds h)
theorem refLess_calls (w : World) (htab : Lib.TabIs Tryd.prog w "internal/strconv.uint64pow10" .u64 Lib.pow10Tab) (x y : Nat → Int) :
    Calls Tryd.prog 8 #[tal x, tal y] w fun e w' => e = .returned (tal fun i => IntKind.i64.wrap (x i + IntKind.i64.wrap (-1 * y i))) ∧ Below w.heap.size w w' :=
  run_calls w htab (refLess_run x y) (by kernel_rfl) (tal_plain _) (by simp)
theorem add_calls (w : World) (htab : Lib.TabIs Tryd.prog w "internal/strconv.uint64pow10" .u64 Lib.pow10Tab) (x y : Nat → Int) :
    Calls Tryd.prog 16 #[tal x, tal y, .int .i64 1] w fun e w' => e = .returned (tal fun i => IntKind.i64.wrap (x i + IntKind.i64.wrap (1 * y i))) ∧ Below w.heap.size w w' :=
  run_calls w htab (add_run x y) (by kernel_rfl) (tal_plain _) (by simp)
end Go.Proofs.YtmopbdalpkcffaaDoor
