/- CountSums returns true. -/
import Derived.Test.YtmopbdalpkcffaaDoorCsEnd
import Derived.Test.YtmopbdalpkcffaaDoorCsArith
namespace Go.Proofs.YtmopbdalpkcffaaDoor
open Go Go.Dee Go.RowKit Go.Proofs
section
variable (X : Nat → Nat → Int) (n : Nat) (x : Nat → Int)
def lessF (s x : Nat → Int) : Nat → Int := fun i => IntKind.i64.wrap (s i - x i)
def refLessF (s x : Nat → Int) : Nat → Int := fun i => IntKind.i64.wrap (s i + IntKind.i64.wrap (-1 * x i))
noncomputable def two : Nat → Nat → Int := fun i j => ((List.range 22).map (lessF (sumS X n) x) ++ (List.range 22).map x).getD (22 * i + j) 0
noncomputable def eq26 (a b : Nat) (x y : Nat → Int) : Prop := CmpIs Tryd.prog .eql 26 (.tmp a) (.tmp b) (.agg (tals x)) (.agg (tals y)) true
noncomputable def obl3 : List Prop :=
  [True, eq26 43 44 (fun _ => 0) (fun _ => 0), CmpIs Tryd.prog .eql 9 (.tmp 37) (.tmp 39) (.string (lineS x)) (.string (lineS x)) true, cAll [tal x], cAll [tal x],
   eq26 31 32 (sumS (two X n x) 2) (sumS X n), True, eq26 19 22 (lessF (sumS X n) x) (refLessF (sumS X n) x), True, True, eq26 12 14 (sumS X n) (refS X n),
   RowsAre n n 22 (OPEN + n) (xd X n).row, RowsAre n n 22 (OPEN + n) (xd X n).row, big3 n false]
set_option maxRecDepth 100000 in
theorem obl3_run (d : Nat → Value) (fn : FuncId) : vO (run3 X n x d fn [(0, false), (0, true), (0, true), (0, true), (0, true), (0, true)]) = obl3 X n x := by kernel_rfl
noncomputable def run3n (d : Nat → Value) (fn : FuncId) (sy : List (Nat × Bool)) :=
  retView Tryd.prog Tryd.f3 (exec envV 3000 fn none c3 ⟨(fill d 0 (slots [.slice none 0 0, tal x] 50)).toArray, []⟩ { stX Tryd.prog [] with say := sy })
def nil2 : Nat → Nat → Int := fun i j => ((List.range 22).map (lessF (fun _ => 0) x) ++ (List.range 22).map x).getD (22 * i + j) 0
noncomputable def obl3n : List Prop :=
  [True, eq26 43 44 (fun _ => 0) (fun _ => 0), CmpIs Tryd.prog .eql 9 (.tmp 37) (.tmp 39) (.string (lineS x)) (.string (lineS x)) true, cAll [tal x], cAll [tal x],
   eq26 31 32 (sumS (nil2 x) 2) (fun _ => 0), True, eq26 19 22 (lessF (fun _ => 0) x) (refLessF (fun _ => 0) x), True, True, eq26 12 14 (fun _ => 0) (fun _ => 0)]
set_option maxRecDepth 100000 in
theorem run3n_eq (d : Nat → Value) (fn : FuncId) : run3n x d fn [(1, true), (0, true), (0, true), (0, true), (0, true)] = some (.bool true, obl3n x) := by kernel_rfl
end
theorem run3_eq (X : Nat → Nat → Int) (n : Nat) (x : Nat → Int) (d : Nat → Value) (fn : FuncId) : run3 X n x d fn [(0, false), (0, true), (0, true), (0, true), (0, true), (0, true)] = some (.bool true, obl3 X n x) := by
  have h1 := short3 X n x d fn
  have h2 := obl3_run X n x d fn
  cases h : run3 X n x d fn [(0, false), (0, true), (0, true), (0, true), (0, true), (0, true)] with
  | none => simp [h, vV] at h1
  | some r =>
    obtain ⟨v, l⟩ := r
    rw [h] at h1 h2
    simp only [vV, vO] at h1 h2
    rw [h1, h2]
theorem getD_two {f g : Nat → Int} {i j : Nat} (hi : i < 2) (hj : j < 22) : ((List.range 22).map f ++ (List.range 22).map g).getD (22 * i + j) 0 = if i = 0 then f j else g j := by
  rw [List.getD_eq_getElem?_getD]
  obtain rfl | rfl : i = 0 ∨ i = 1 := by omega
  · rw [List.getElem?_append_left (by simp; omega)]
    simp [hj]
  · rw [List.getElem?_append_right (by simp)]
    simp only [List.length_map, List.length_range, List.getElem?_map]
    rw [show 22 * 1 + j - 22 = j from by omega]
    simp [hj]
theorem cAll_of {x : Nat → Int} (h : rng x) : cAll [tal x] := fun v hv y hy => by
  obtain rfl := List.mem_singleton.1 hv
  have := untal_spec hy
  unfold tal at this
  injection this with this
  have hl := congrArg Array.toList this
  simp only [] at hl
  intro i hi
  have e := congrArg (·[i]?) hl
  simp only [List.getElem?_map, List.getElem?_range hi, Option.map_some, Option.some.injEq, Value.int.injEq, true_and] at e
  rw [← e]
  exact h i hi
theorem str_self {P : Program} {t : TypeId} {a b : Operand} {s : ByteArray} : CmpIs P .eql t a b (.string s) (.string s) true := fun st => by
  show emb P (Sem.bind (Sem.pure ()) fun _ => Op.stringOp .eql s s) st = _
  simp only [Sem.bind, Op.stringOp, beq_self_eq_true]
  rfl
theorem rest_holds {s s' x : Nat → Int} {Z : Nat → Nat → Int} (hs : ∀ j, j < 22 → s j = s' j) (hi : ∀ j, j < 22 → I64 (s j)) (hx : rng x) (hZ : ∀ i j, i < 2 → j < 22 → Z i j = if i = 0 then lessF s x j else x j) (L : List Prop) (hL : ∀ o ∈ L, o) :
    ∀ o ∈ [True, eq26 43 44 (fun _ => 0) (fun _ => 0), CmpIs Tryd.prog .eql 9 (.tmp 37) (.tmp 39) (.string (lineS x)) (.string (lineS x)) true, cAll [tal x], cAll [tal x],
      eq26 31 32 (sumS Z 2) s, True, eq26 19 22 (lessF s x) (refLessF s x), True, True, eq26 12 14 s s'] ++ L, o := by
  intro o ho
  simp only [List.cons_append, List.nil_append, List.mem_cons] at ho
  rcases ho with rfl | rfl | rfl | rfl | rfl | rfl | rfl | rfl | rfl | rfl | rfl | ho
  · trivial
  · exact eq_of fun _ _ => rfl
  · exact str_self
  · exact cAll_of hx
  · exact cAll_of hx
  · exact eq_of (back (fun j hj => by rw [hZ 0 j (by omega) hj]; rfl) (fun j hj => by rw [hZ 1 j (by omega) hj]; rfl) hi hx)
  · trivial
  · exact eq_of fun j _ => less_ref _ _
  · trivial
  · trivial
  · exact eq_of hs
  · exact hL o ho
theorem countSums_calls (w : World) (htab : Tab w) {X : Nat → Nat → Int} {n : Nat} {x : Nat → Int} {L : Dee.Loc} (hX : RowsHere w [xd X n] [L]) (hr : ∀ k j, k < n → j < 22 → I64 (X k j)) (hx : rng x) (hn : n ≤ 9223372036854775807) :
    Calls Tryd.prog 3 #[.slice (some ⟨L.blk, L.base, none⟩) n (n + L.slack), tal x] w fun e w' => e = .returned (.bool true) ∧ Below w.heap.size w w' := by
  have hE : envB.Ok (startX envB.P [xd X n] [L] w) := envB_ok cleanX htab
  refine calls_of_wp (fn := Tryd.f3) (c := c3) Tryd.func3 (by kernel_rfl) ?_
  have h0 := PatAt.start (E := envB) hX (vs := [arg n, tal x]) (args := #[.slice (some ⟨L.blk, L.base, none⟩) n (n + L.slack), tal x]) ⟨_, _, rfl, argX_rel rfl, _, _, rfl, noAddr_rel (tal_plain _), rfl⟩ 50
  by_cases hl : n > 60
  · refine h0.ret (E' := envV) hE rfl rfl envBV _ Tryd.f3 (long3 X n x) (fun o ho => ?_) fun ν' s' w' hc => ⟨rfl, hc.below cleanX⟩
    simp only [List.mem_cons, List.not_mem_nil, or_false] at ho
    rcases ho with rfl | rfl
    · trivial
    · exact cmp_int rfl (by simp [cmpZ]; omega)
  · have hsr := sum_ref (X := X) (n := n) hr n (Nat.le_refl _)
    refine h0.ret (E' := envV) hE rfl rfl envBV _ Tryd.f3 (run3_eq X n x) (rest_holds (fun j hj => (hsr j hj).1) (fun j hj => by rw [(hsr j hj).1]; exact (hsr j hj).2) hx (fun i j hi hj => getD_two hi hj)
      [RowsAre n n 22 (OPEN + n) (xd X n).row, RowsAre n n 22 (OPEN + n) (xd X n).row, big3 n false] (held3 ⟨rfl, rfl, rfl, hn, fun i j => rfl⟩ ⟨rfl, rfl, rfl, hn, fun i j => rfl⟩ (cmp_int rfl (by simp [cmpZ]; omega)))) fun ν' s' w' hc => ⟨rfl, hc.below cleanX⟩
theorem countSums_nil (w : World) (htab : Tab w) {x : Nat → Int} (hx : rng x) :
    Calls Tryd.prog 3 #[.slice none 0 0, tal x] w fun e w' => e = .returned (.bool true) ∧ Below w.heap.size w w' := by
  have hE : envB.Ok (startX envB.P [] [] w) := envB_ok cleanX htab
  refine calls_of_wp (fn := Tryd.f3) (c := c3) Tryd.func3 (by kernel_rfl) ?_
  have h0 := PatAt.start (E := envB) (w := w) (l := []) (Ls := []) ⟨rfl, fun i x L h => by simp at h⟩ (vs := [.slice none 0 0, tal x]) (args := #[.slice none 0 0, tal x]) ⟨_, _, rfl, noAddr_rel rfl, _, _, rfl, noAddr_rel (tal_plain _), rfl⟩ 50
  refine h0.ret (E' := envV) hE rfl rfl envBV _ Tryd.f3 (run3n_eq x) (fun o ho => rest_holds (s := fun _ => 0) (s' := fun _ => 0) (fun _ _ => rfl) (fun _ _ => by simp [I64]) hx (fun i j hi hj => getD_two hi hj) [] noObl o ?_) fun ν' s' w' hc => ⟨rfl, hc.below cleanX⟩
  rw [List.append_nil]
  exact ho
#print axioms countSums_calls
end Go.Proofs.YtmopbdalpkcffaaDoor
