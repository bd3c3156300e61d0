/- The document's Sum: a loop. -/
import Derived.Test.YtmopbdalpkcffaaDoorCsLess
import Derived.Test.YtmopbdalpkcffaaDoorDee24
import Derived.IntWalk
namespace Go.Proofs.YtmopbdalpkcffaaDoor
open Go Go.Dee Go.RowKit Go.Proofs
def sq1 : Code → Code | .seq a _ => a | c => c
def sq2 : Code → Code | .seq _ a => a | c => c
def bl : Code → Code | .block _ a => a | c => c
def lp : Code → Code | .loop a => a | c => c
noncomputable def bodyOf (f : Nat) : Code := match Tryd.prog.funcs[f]? with | some fn => fn.body.getD .skip | none => .skip
noncomputable def c6 : Code := bodyOf 6
noncomputable def l6 : Code := lp (bl (sq2 (sq1 (sq2 (sq2 c6)))))
noncomputable def e6 : Code := sq2 (sq2 (sq2 c6))
theorem c6_eq : c6 = .seq (sq1 c6) (.seq (sq1 (sq2 c6)) (.seq (.seq (sq1 (sq1 (sq2 (sq2 c6)))) (.block 0 (.loop l6))) e6)) := by kernel_rfl
noncomputable abbrev G : Nat := Tryd.prog.globals.size
def xd (X : Nat → Nat → Int) (n : Nat) : XD := { n, size := 22, row := fun i j => .v (.int .i64 (X i j)) }
def tl (f : Nat → Int) : List Value := (List.range 22).map fun i => .int .i64 (f i)
noncomputable def bs6 (X : Nat → Nat → Int) (n : Nat) (f : Nat → Int) : BDs :=
  [(G + 1, .rows n 22 (xd X n).row), (G + 2, .cells (tl fun _ => 0) 26 .rw (0, 0)), (G + 3, .cells (tl f) 26 .rw (0, 0))]
noncomputable def pt (i : Nat) : Value := .pointer (some ⟨G + i, 0, none⟩)
noncomputable def sl6 (n : Nat) (z : Int) : List (Option Value) :=
  [some (.slice (some ⟨G + 1, 0, none⟩) n (OPEN + n)), none, some (pt 2), some (pt 3), some (.int .i64 z)] ++ List.replicate 14 none
def ks6 : List Bool := [true, false, true, true, true] ++ List.replicate 14 false
noncomputable def lt6 (z : Int) (n : Nat) (d : Bool) : Prop := CmpIs Tryd.prog .lss 3 (.tmp 6) (.tmp 8) (.int .i64 z) (.int .i64 n) d
set_option maxRecDepth 100000 in
theorem round6 (X : Nat → Nat → Int) (n i : Nat) (f : Nat → Int) (d : Nat → Value) (fn : FuncId) :
    view Tryd.prog ks6 (G + 4) [G + 1, G + 2, G + 3] (exec envU 3000 fn none l6 ⟨(fill d 0 (sl6 n i)).toArray, []⟩ { mkS (G + 4) (bs6 X n f) with say := [(0, true)] }) =
      some (.norm, sl6 n (IntKind.i64.wrap ((i : Int) + 1)), bs6 X n (fun j => IntKind.i64.wrap (f j + IntKind.i64.wrap (1 * X i j))), [RowOk n n i, lt6 i n true]) := by kernel_rfl
set_option maxRecDepth 100000 in
theorem end6 (X : Nat → Nat → Int) (n i : Nat) (f : Nat → Int) (d : Nat → Value) (fn : FuncId) :
    view Tryd.prog ks6 (G + 4) [G + 1, G + 2, G + 3] (exec envU 3000 fn none l6 ⟨(fill d 0 (sl6 n i)).toArray, []⟩ { mkS (G + 4) (bs6 X n f) with say := [(0, false)] }) =
      some (.exit 0, sl6 n i, bs6 X n f, [lt6 i n false]) := by kernel_rfl
noncomputable def arg (n : Nat) : Value := argX Tryd.prog 0 n
set_option maxRecDepth 100000 in
theorem pre6a (X : Nat → Nat → Int) (n : Nat) (d : Nat → Value) (fn : FuncId) :
    view Tryd.prog ([true, false, true] ++ List.replicate 16 false) (G + 3) [G + 1, G + 2] (exec envU 3000 fn none (sq1 c6) ⟨(fill d 0 (slots [arg n] 19)).toArray, []⟩ { stX Tryd.prog [xd X n] with say := [] }) =
      some (.norm, [some (arg n), none, some (pt 2)] ++ List.replicate 16 none, [(G + 1, .rows n 22 (xd X n).row), (G + 2, .cells (tl fun _ => 0) 26 .rw (0, 0))], []) := by kernel_rfl
set_option maxRecDepth 100000 in
theorem pre6b (X : Nat → Nat → Int) (n : Nat) (d : Nat → Value) (fn : FuncId) :
    view Tryd.prog ([true, false, true, true] ++ List.replicate 15 false) (G + 4) [G + 1, G + 2, G + 3] (exec envU 3000 fn none (sq1 (sq2 c6)) ⟨(fill d 0 ([some (arg n), none, some (pt 2)] ++ List.replicate 16 none)).toArray, []⟩ { mkS (G + 3) [(G + 1, .rows n 22 (xd X n).row), (G + 2, .cells (tl fun _ => 0) 26 .rw (0, 0))] with say := [] }) =
      some (.norm, [some (arg n), none, some (pt 2), some (pt 3)] ++ List.replicate 15 none, bs6 X n (fun _ => 0), []) := by kernel_rfl
set_option maxRecDepth 100000 in
theorem pre6c (X : Nat → Nat → Int) (n : Nat) (d : Nat → Value) (fn : FuncId) :
    view Tryd.prog ks6 (G + 4) [G + 1, G + 2, G + 3] (exec envU 3000 fn none (sq1 (sq1 (sq2 (sq2 c6)))) ⟨(fill d 0 ([some (arg n), none, some (pt 2), some (pt 3)] ++ List.replicate 15 none)).toArray, []⟩ { mkS (G + 4) (bs6 X n (fun _ => 0)) with say := [] }) =
      some (.norm, sl6 n 0, bs6 X n (fun _ => 0), []) := by kernel_rfl
set_option maxRecDepth 100000 in
theorem ret6 (X : Nat → Nat → Int) (n i : Nat) (f : Nat → Int) (d : Nat → Value) (fn : FuncId) :
    retView Tryd.prog Tryd.f6 (exec envU 3000 fn none e6 ⟨(fill d 0 (sl6 n i)).toArray, []⟩ { mkS (G + 4) (bs6 X n f) with say := [] }) = some (tal f, []) := by kernel_rfl
def refS (X : Nat → Nat → Int) : Nat → Nat → Int
  | 0 => fun _ => 0
  | k + 1 => fun j => IntKind.i64.wrap (refS X k j + IntKind.i64.wrap (1 * X k j))
theorem noObl : ∀ o ∈ ([] : List Prop), o := by simp
theorem wrap_up {i : Int} (h0 : 0 ≤ i) (h1 : i < 9223372036854775807) : IntKind.i64.wrap (i + 1) = i + 1 := IntWalk.i64_in _ (by omega)
theorem refSum_calls (w : World) (htab : Lib.TabIs Tryd.prog w "internal/strconv.uint64pow10" .u64 Lib.pow10Tab) {X : Nat → Nat → Int} {n : Nat} {L : Dee.Loc} (hX : RowsHere w [xd X n] [L]) (hn : n ≤ 9223372036854775807) :
    Calls Tryd.prog 6 #[.slice (some ⟨L.blk, L.base, none⟩) n (n + L.slack)] w fun e w' => e = .returned (tal (refS X n)) ∧ Below w.heap.size w w' := by
  have hE : envA.Ok (startX envA.P [xd X n] [L] w) := envA_ok' cleanX htab
  refine calls_of_wp (fn := Tryd.f6) (c := c6) Tryd.func6 (by kernel_rfl) ?_
  have h0 := PatAt.start (E := envA) hX (vs := [arg n]) (args := #[.slice (some ⟨L.blk, L.base, none⟩) n (n + L.slack)]) ⟨_, _, rfl, argX_rel rfl, rfl⟩ 19
  rw [c6_eq]
  refine wp_seq (h0.seg (E' := envU) hE rfl rfl env_rf [] _ _ _ (pre6a X n) noObl fun b1 w1 h1 => ?_)
  refine wp_seq (h1.seg (E' := envU) hE rfl rfl env_rf [] _ _ _ (pre6b X n) noObl fun b2 w2 h2 => ?_)
  refine wp_seq (wp_seq (h2.seg (E' := envU) hE rfl rfl env_rf [] _ _ _ (pre6c X n) noObl fun b3 w3 h3 => ?_))
  refine wp_block (PatAt.loop (fun i : Nat => n - i) (fun i => sl6 n i) (fun i => mkS (G + 4) (bs6 X n (refS X i))) (fun i => i ≤ n) (g0 := 0) h3 (Nat.zero_le _) fun i b w hi h => ?_)
  by_cases hlt : i < n
  · refine h.seg (E' := envU) hE rfl rfl env_rf [(0, true)] _ _ _ (round6 X n i (refS X i)) (fun o ho => ?_) fun b' w' h' => ?_
    · simp only [List.mem_cons, List.not_mem_nil, or_false] at ho
      rcases ho with rfl | rfl
      · exact ⟨by omega, by omega, Nat.le_refl _⟩
      · exact cmp_int rfl (by simp [cmpZ]; omega)
    · refine ⟨i + 1, by omega, hlt, ?_⟩
      rw [wrap_up (by omega) (by omega)] at h'
      exact h'
  · refine h.seg (E' := envU) hE rfl rfl env_rf [(0, false)] _ _ _ (end6 X n i (refS X i)) (fun o ho => ?_) fun b' w' h' => ?_
    · simp only [List.mem_cons, List.not_mem_nil, or_false] at ho
      subst ho
      exact cmp_int rfl (by simp [cmpZ]; omega)
    · obtain rfl : i = n := by omega
      exact h'.ret (E' := envU) hE rfl rfl env_rf [] Tryd.f6 (ret6 X i i (refS X i)) noObl fun ν' s' w' hc => ⟨rfl, hc.below cleanX⟩
#print axioms refSum_calls
end Go.Proofs.YtmopbdalpkcffaaDoor
