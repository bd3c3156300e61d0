/- The program's Sum: a loop over tallies. -/
import Derived.Test.YtmopbdalpkcffaaDoorCsRef
import Derived.Test.YtmopbdalpkcffaaDoorDee25
namespace Go.Proofs.YtmopbdalpkcffaaDoor
open Go Go.Dee Go.RowKit Go.Proofs
noncomputable def c5 : Code := bodyOf 5
noncomputable def l5 : Code := lp (bl (sq2 (sq1 (sq2 (sq2 c5)))))
noncomputable def e5 : Code := sq2 (sq2 (sq2 c5))
theorem c5_eq : c5 = .seq (sq1 c5) (.seq (sq1 (sq2 c5)) (.seq (.seq (sq1 (sq1 (sq2 (sq2 c5)))) (.block 0 (.loop l5))) e5)) := by kernel_rfl
noncomputable def bs5 (X : Nat → Nat → Int) (n : Nat) (f : Nat → Int) : BDs :=
  [(G + 1, .rows n 22 (xd X n).row), (G + 2, .cells (tl f) 26 .rw (0, 0)), (G + 3, .cells (tl fun _ => 0) 26 .rw (0, 0))]
noncomputable def sl5 (n : Nat) (z : Int) : List (Option Value) :=
  [some (arg n), none, some (pt 2), some (pt 3)] ++ List.replicate 7 none ++ [some (arg n), some (.int .i64 n), some (.int .i64 z)] ++ List.replicate 46 none
def ks5 : List Bool := [true, false, true, true] ++ List.replicate 7 false ++ [true, true, true] ++ List.replicate 46 false
noncomputable def lt5 (z : Int) (n : Nat) (d : Bool) : Prop := CmpIs Tryd.prog .lss 3 (.tmp 13) (.tmp 12) (.int .i64 z) (.int .i64 n) d
def kinds (x : Nat → Int) : Array Value := #[.int .i64 (x 0), .int .i64 (x 1), .int .i64 (x 2), .int .i64 (x 3)]
def tals (x : Nat → Int) : Array Value := ((List.range 22).map fun i => .int .i64 (x i)).toArray
noncomputable def eqK (x : Nat → Int) (d : Bool) : Prop := CmpIs Tryd.prog .eql 23 (.tmp 18) (.tmp 20) (.agg (kinds x)) (.agg (kinds fun _ => 0)) d
noncomputable def eqT (x : Nat → Int) (d : Bool) : Prop := CmpIs Tryd.prog .eql 26 (.tmp 23) (.tmp 24) (.agg (tals x)) (.agg (tals fun _ => 0)) d
noncomputable def run5 (X : Nat → Nat → Int) (n i : Nat) (f : Nat → Int) (d : Nat → Value) (fn : FuncId) (sy : List (Nat × Bool)) :=
  view Tryd.prog ks5 (G + 4) [G + 1, G + 2, G + 3] (exec envU 3000 fn none l5 ⟨(fill d 0 (sl5 n i)).toArray, []⟩ { mkS (G + 4) (bs5 X n f) with say := sy })
section
variable (X : Nat → Nat → Int) (n i : Nat) (f : Nat → Int) (d : Nat → Value) (fn : FuncId)
set_option maxRecDepth 100000 in
theorem end5 : run5 X n i f d fn [(0, false)] = some (.exit 0, sl5 n i, bs5 X n f, [lt5 i n false]) := by kernel_rfl
set_option maxRecDepth 100000 in
theorem skip5 : run5 X n i f d fn [(0, true), (0, true), (0, true)] = some (.norm, sl5 n (IntKind.i64.wrap ((i : Int) + 1)), bs5 X n f, [eqT (X i) true, eqK (X i) true, RowOk n n i, lt5 i n true]) := by kernel_rfl
set_option maxRecDepth 100000 in
theorem add5a : run5 X n i f d fn [(0, true), (0, false)] = some (.norm, sl5 n (IntKind.i64.wrap ((i : Int) + 1)), bs5 X n (fun j => IntKind.i64.wrap (f j + X i j)), [eqK (X i) false, RowOk n n i, lt5 i n true]) := by kernel_rfl
set_option maxRecDepth 100000 in
theorem add5b : run5 X n i f d fn [(0, true), (0, true), (0, false)] = some (.norm, sl5 n (IntKind.i64.wrap ((i : Int) + 1)), bs5 X n (fun j => IntKind.i64.wrap (f j + X i j)), [eqT (X i) false, eqK (X i) true, RowOk n n i, lt5 i n true]) := by kernel_rfl
end
def andL (x : Nat → Int) : List Nat → Bool
  | [] => true
  | i :: l => (x i == 0) && andL x l
def zK (x : Nat → Int) : Bool := andL x [0, 1, 2, 3]
def zT (x : Nat → Int) : Bool := zK x && (andL x [4,5,6,7,8,9,10,11,12,13,14,15,16,17,18,19] && ((x 20 == 0) && ((x 21 == 0) && true)))
set_option maxRecDepth 100000 in
theorem eqK_V (x : Nat → Int) : eqV Tryd.prog Op.maxDepth 23 (.agg (kinds x)) (.agg (kinds fun _ => 0)) = some (zK x) := by kernel_rfl
set_option maxRecDepth 100000 in
theorem eqT_V (x : Nat → Int) : eqV Tryd.prog Op.maxDepth 26 (.agg (tals x)) (.agg (tals fun _ => 0)) = some (zT x) := by kernel_rfl
theorem eqK_of {x : Nat → Int} {d : Bool} (h : zK x = d) : eqK x d := cmp_eq (by kernel_rfl) (h ▸ eqK_V x)
theorem eqT_of {x : Nat → Int} {d : Bool} (h : zT x = d) : eqT x d := cmp_eq (by kernel_rfl) (h ▸ eqT_V x)
noncomputable def rowD (X : Nat → Nat → Int) (n : Nat) : Nat × BD := (G + 1, .rows n 22 (xd X n).row)
noncomputable def zero2 : Nat × BD := (G + 2, .cells (tl fun _ => 0) 26 .rw (0, 0))
noncomputable def sa (n k : Nat) : List (Option Value) := [some (arg n), none, some (pt 2)] ++ List.replicate k none
noncomputable def sb (n k : Nat) : List (Option Value) := [some (arg n), none, some (pt 2), some (pt 3)] ++ List.replicate k none
section
variable (X : Nat → Nat → Int) (n i : Nat) (f : Nat → Int) (d : Nat → Value) (fn : FuncId)
set_option maxRecDepth 100000 in
theorem pre5a : view Tryd.prog ([true, false, true] ++ List.replicate 57 false) (G + 3) [G + 1, G + 2] (exec envU 3000 fn none (sq1 c5) ⟨(fill d 0 (slots [arg n] 60)).toArray, []⟩ { stX Tryd.prog [xd X n] with say := [] }) =
      some (.norm, sa n 57, [rowD X n, zero2], []) := by kernel_rfl
set_option maxRecDepth 100000 in
theorem pre5b : view Tryd.prog ([true, false, true, true] ++ List.replicate 56 false) (G + 4) [G + 1, G + 2, G + 3] (exec envU 3000 fn none (sq1 (sq2 c5)) ⟨(fill d 0 (sa n 57)).toArray, []⟩ { mkS (G + 3) [rowD X n, zero2] with say := [] }) =
      some (.norm, sb n 56, bs5 X n (fun _ => 0), []) := by kernel_rfl
set_option maxRecDepth 100000 in
theorem pre5c : view Tryd.prog ks5 (G + 4) [G + 1, G + 2, G + 3] (exec envU 3000 fn none (sq1 (sq1 (sq2 (sq2 c5)))) ⟨(fill d 0 (sb n 56)).toArray, []⟩ { mkS (G + 4) (bs5 X n (fun _ => 0)) with say := [] }) =
      some (.norm, sl5 n 0, bs5 X n (fun _ => 0), []) := by kernel_rfl
set_option maxRecDepth 100000 in
theorem ret5 : retView Tryd.prog Tryd.f5 (exec envU 3000 fn none e5 ⟨(fill d 0 (sl5 n i)).toArray, []⟩ { mkS (G + 4) (bs5 X n f) with say := [] }) = some (tal f, []) := by kernel_rfl
end
theorem held3 {p q r : Prop} (h1 : p) (h2 : q) (h3 : r) : ∀ o ∈ [p, q, r], o := by simp only [List.mem_cons, List.not_mem_nil, or_false]; rintro o (rfl | rfl | rfl) <;> assumption
theorem held4 {p q r t : Prop} (h1 : p) (h2 : q) (h3 : r) (h4 : t) : ∀ o ∈ [p, q, r, t], o := by simp only [List.mem_cons, List.not_mem_nil, or_false]; rintro o (rfl | rfl | rfl | rfl) <;> assumption
def sumS (X : Nat → Nat → Int) : Nat → Nat → Int
  | 0 => fun _ => 0
  | k + 1 => if zT (X k) then sumS X k else fun j => IntKind.i64.wrap (sumS X k j + X k j)
theorem sum_calls (w : World) (htab : Lib.TabIs Tryd.prog w "internal/strconv.uint64pow10" .u64 Lib.pow10Tab) {X : Nat → Nat → Int} {n : Nat} {L : Dee.Loc} (hX : RowsHere w [xd X n] [L]) (hn : n ≤ 9223372036854775807) :
    Calls Tryd.prog 5 #[.slice (some ⟨L.blk, L.base, none⟩) n (n + L.slack)] w fun e w' => e = .returned (tal (sumS X n)) ∧ Below w.heap.size w w' := by
  have hE : envA.Ok (startX envA.P [xd X n] [L] w) := envA_ok' cleanX htab
  refine calls_of_wp (fn := Tryd.f5) (c := c5) Tryd.func5 (by kernel_rfl) ?_
  have h0 := PatAt.start (E := envA) hX (vs := [arg n]) (args := #[.slice (some ⟨L.blk, L.base, none⟩) n (n + L.slack)]) ⟨_, _, rfl, argX_rel rfl, rfl⟩ 60
  rw [c5_eq]
  refine wp_seq (h0.seg (E' := envU) hE rfl rfl env_rf [] _ _ _ (pre5a X n) noObl fun b1 w1 h1 => ?_)
  refine wp_seq (h1.seg (E' := envU) hE rfl rfl env_rf [] _ _ _ (pre5b X n) noObl fun b2 w2 h2 => ?_)
  refine wp_seq (wp_seq (h2.seg (E' := envU) hE rfl rfl env_rf [] _ _ _ (pre5c X n) noObl fun b3 w3 h3 => ?_))
  refine wp_block (PatAt.loop (fun i : Nat => n - i) (fun i => sl5 n i) (fun i => mkS (G + 4) (bs5 X n (sumS X i))) (fun i => i ≤ n) (g0 := 0) h3 (Nat.zero_le _) fun i b w hi h => ?_)
  by_cases hlt : i < n
  · have hr : RowOk n n i := ⟨by omega, by omega, Nat.le_refl _⟩
    have hl : lt5 i n true := cmp_int rfl (by simp [cmpZ]; omega)
    cases hk : zK (X i) with
    | false =>
      refine h.seg (E' := envU) hE rfl rfl env_rf _ _ _ _ (add5a X n i (sumS X i)) (held3 (eqK_of hk) (hr) (hl)) fun b' w' h' => ?_
      · refine ⟨i + 1, by omega, hlt, ?_⟩
        rw [wrap_up (by omega) (by omega)] at h'
        have : zT (X i) = false := by unfold zT; rw [hk]; rfl
        simp only [sumS, this]
        exact h'
    | true =>
      cases ht : zT (X i) with
      | false =>
        refine h.seg (E' := envU) hE rfl rfl env_rf _ _ _ _ (add5b X n i (sumS X i)) (held4 (eqT_of ht) (eqK_of hk) (hr) (hl)) fun b' w' h' => ?_
        · refine ⟨i + 1, by omega, hlt, ?_⟩
          rw [wrap_up (by omega) (by omega)] at h'
          simp only [sumS, ht]
          exact h'
      | true =>
        refine h.seg (E' := envU) hE rfl rfl env_rf _ _ _ _ (skip5 X n i (sumS X i)) (held4 (eqT_of ht) (eqK_of hk) (hr) (hl)) fun b' w' h' => ?_
        · refine ⟨i + 1, by omega, hlt, ?_⟩
          rw [wrap_up (by omega) (by omega)] at h'
          simp only [sumS, ht]
          exact h'
  · refine h.seg (E' := envU) hE rfl rfl env_rf [(0, false)] _ _ _ (end5 X n i (sumS X i)) (fun o ho => ?_) fun b' w' h' => ?_
    · simp only [List.mem_cons, List.not_mem_nil, or_false] at ho
      subst ho
      exact cmp_int rfl (by simp [cmpZ]; omega)
    · obtain rfl : i = n := by omega
      exact h'.ret (E' := envU) hE rfl rfl env_rf [] Tryd.f5 (ret5 X i i (sumS X i)) noObl fun ν' s' w' hc => ⟨rfl, hc.below cleanX⟩
#print axioms sum_calls
end Go.Proofs.YtmopbdalpkcffaaDoor
