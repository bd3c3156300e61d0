/- Dee, part 24: where a function begins: rows that came in; loops. -/
import Derived.Test.YtmopbdalpkcffaaDoorDee23
import Derived.Deep.LoopGhost
namespace Go.Dee
open Go Go.RowKit

structure XD where
  n : Nat
  size : Nat
  row : Nat → Nat → XV

def putRows (n : Nat) (h : T (T KV)) : List XD → T (T KV)
  | [] => h
  | x :: l => putRows (n + 1) (h.set n (.n .e (some (.hd (.rows x.n x.size x.row))) .e)) l
def stX (P : Program) (l : List XD) : S := { h := putRows (P.globals.size + 1) .e l, n := P.globals.size + 1 + l.length, on := false, log := [] }
def nuX (P : Program) (Ls : List Loc) : Nm := fun b => if b ≤ P.globals.size then some ⟨b, 0, 0⟩ else Ls[b - (P.globals.size + 1)]?

theorem putRows_get : ∀ (l : List XD) (n : Nat) (h : T (T KV)) (b : Nat), (putRows n h l).get b = if n ≤ b ∧ b < n + l.length then (l[b - n]?).map (fun x => T.n .e (some (.hd (.rows x.n x.size x.row))) .e) else h.get b := by
  intro l
  induction l with
  | nil => intro n h b; simp [putRows]; intro h1 h2; omega
  | cons x l ih =>
    intro n h b
    simp only [putRows, ih, T.get_set, List.length_cons]
    by_cases e : b = n
    · subst e
      rw [if_neg (by omega), if_pos rfl, if_pos (by omega)]; simp
    · by_cases k : n ≤ b ∧ b < n + (l.length + 1)
      · rw [if_pos (by omega), if_pos k]
        obtain ⟨m, hm⟩ : ∃ m, b = n + 1 + m := ⟨b - n - 1, by omega⟩
        subst hm
        rw [show n + 1 + m - (n + 1) = m from by omega, show n + 1 + m - n = m + 1 from by omega]; simp
      · rw [if_neg (by omega), if_neg e, if_neg k]

section
variable {P : Program} {l : List XD} {Ls : List Loc} {w : World}
theorem stX_at {b j : Nat} {x : KV} (h : (stX P l).at b j = some x) :
    ∃ i y, b = P.globals.size + 1 + i ∧ l[i]? = some y ∧ j = 0 ∧ x = .hd (.rows y.n y.size y.row) := by
  simp only [S.at, stX, putRows_get] at h
  split at h
  · rename_i k
    cases hb : l[b - (P.globals.size + 1)]? with
    | none => rw [hb] at h; simp at h
    | some y =>
      rw [hb] at h
      simp only [Option.map_some, Option.bind_some, T.get] at h
      split at h
      · rename_i hj
        exact ⟨b - (P.globals.size + 1), y, by omega, hb, hj, (Option.some.inj h).symm⟩
      · split at h <;> simp at h
  · simp [T.get] at h
theorem gokX : GOk P (nuX P Ls) := fun g hg => by simp [nuX, hg]
theorem nuX_at {i : Nat} {L : Loc} (h : Ls[i]? = some L) : nuX P Ls (P.globals.size + 1 + i) = some L := by
  have h3 : ¬ P.globals.size + 1 + i ≤ P.globals.size := by omega
  simp only [nuX, if_neg h3, Nat.add_sub_cancel_left]
  exact h
/-- A slice that came in. -/
def argX (P : Program) (i n : Nat) : Value := .slice (some ⟨P.globals.size + 1 + i, 0, none⟩) n (OPEN + n)
theorem argX_rel {i n : Nat} {L : Loc} (h : Ls[i]? = some L) : VRel (nuX P Ls) (argX P i n) (.slice (some ⟨L.blk, L.base, none⟩) n (n + L.slack)) := by
  refine ⟨_, L, ⟨rfl, L, nuX_at h, rfl⟩, nuX_at h, ?_⟩
  rw [if_neg (by omega), Nat.add_sub_cancel_left]
  rfl
theorem ownX {ν : Nm} (r : Nat) : ¬ Own ν (stX P l) r := by
  rintro ⟨b, m, L, h1, h2, _⟩
  obtain ⟨i, y, _, _, _, e⟩ := stX_at h1
  injection e with e
  subst e
  simp [owns] at h2
theorem rX {ν : Nm} : R P ν (stX P l) w where
  blk := fun b m h hm => by
    obtain ⟨i, y, _, _, _, e⟩ := stX_at h
    injection e with e
    subst e
    simp [live] at hm
  apart := fun b b' m m' L L' h _ ho => by
    obtain ⟨i, y, _, _, _, e⟩ := stX_at h
    injection e with e
    subst e
    simp [owns] at ho
theorem freshX (hl : Ls.length = l.length) : Fresh (nuX P Ls) (stX P l).n BIG := fun b h1 h2 => by
  change P.globals.size + 1 + l.length ≤ b at h1
  have h3 : ¬ b ≤ P.globals.size := by omega
  have h4 : Ls[b - (P.globals.size + 1)]? = none := List.getElem?_eq_none (by omega)
  simp [nuX, h3, h4]
def startX (P : Program) (l : List XD) (Ls : List Loc) (w : World) : Start := ⟨nuX P Ls, stX P l, w⟩
theorem cleanX : NoOwn (startX P l Ls w) := fun r => ownX r
/-- The rows are there. -/
def RowsHere (w : World) (l : List XD) (Ls : List Loc) : Prop := Ls.length = l.length ∧ ∀ (i : Nat) (x : XD) (L : Loc), l[i]? = some x → Ls[i]? = some L → XAt (fun r => r < w.heap.size) w L x.n x.size x.row
theorem rowsX (h : RowsHere w l Ls) : RowsOk (nuX P Ls) (stX P l) w := fun b n size row hb => by
  obtain ⟨i, y, rfl, hy, _, e⟩ := stX_at hb
  injection e with e
  injection e with e1 e2 e3
  subst e1 e2 e3
  have hi : i < l.length := (List.getElem?_eq_some_iff.1 hy).1
  have hL : Ls[i]? = some (Ls[i]'(by rw [h.1]; exact hi)) := List.getElem?_eq_getElem _
  refine ⟨_, ?_, (h.2 i y _ hy hL).mono fun r hr => ⟨⟨hr, ownX r⟩, rfl⟩⟩
  have h3 : ¬ P.globals.size + 1 + i ≤ P.globals.size := by omega
  simp only [nuX, if_neg h3, Nat.add_sub_cancel_left]
  exact hL
end

section
variable {E : Env} {l : List XD} {Ls : List Loc} {w : World}
theorem fill_some (d : Nat → Value) : ∀ (vs : List Value) (i : Nat), fill d i (vs.map some) = vs
  | [], _ => rfl
  | v :: vs, i => by simp only [List.map_cons, fill]; rw [fill_some d vs]
theorem VRell.replicate {ν : Nm} (n : Nat) {u v : Value} (h : VRel ν u v) : VRell ν (List.replicate n u) (List.replicate n v) := by
  induction n with
  | zero => rfl
  | succ n ih => exact ⟨v, _, by rw [List.replicate_succ], h, ih⟩
/-- The frame vs the function is entered. -/
def slots (vs : List Value) (n : Nat) : List (Option Value) := (vs ++ List.replicate (n - vs.length) undef).map some
theorem PatAt.start (h : RowsHere w l Ls) {vs : List Value} {args : Array Value} (ha : VRell (nuX E.P Ls) vs args.toList) (n : Nat) :
    PatAt E (startX E.P l Ls w) (slots vs n) (stX E.P l) { tmps := args ++ Array.replicate (n - args.size) undef, defers := [] } w := by
  refine ⟨fun _ => undef, nuX E.P Ls, Ctx.start gokX (rowsX h), rX, ⟨?_, rfl⟩, freshX h.1⟩
  unfold slots
  rw [fill_some]
  have hlen : args.size = vs.length := by have := ha.length; simpa using this
  show VRell _ _ (args ++ Array.replicate (n - args.size) undef).toList
  rw [Array.toList_append, Array.toList_replicate, hlen]
  exact VRell.append ha (VRell.replicate _ undef_rel)

/-- A loop: at each round's head frame and world stand to the pattern of some g. -/
theorem PatAt.loop {c : Start} {G : Type} (μ : G → Nat) (sl : G → List (Option Value)) (s : G → S) (I : G → Prop) {code : Code} {Q : Exit → Act → World → Prop} {b : Act} {g0 : G} (h : PatAt E c (sl g0) (s g0) b w) (hI : I g0)
    (round : ∀ g b w, I g → PatAt E c (sl g) (s g) b w → code.wp E.P (Exit.then (fun b' w' => ∃ g', μ g' < μ g ∧ I g' ∧ PatAt E c (sl g') (s g') b' w') Q) b w) : (Code.loop code).wp E.P Q b w := by
  refine wp_loop_ghost (fun n b w => ∃ g, μ g = n ∧ I g ∧ PatAt E c (sl g) (s g) b w) (μ g0) ⟨g0, rfl, hI, h⟩ ?_
  rintro n b w ⟨g, rfl, hi, hp⟩
  refine wp_mono (round g b w hi hp) ?_
  intro e a' w' hq
  cases e with
  | normal => obtain ⟨g', h1, h2, h3⟩ := hq; exact ⟨μ g', h1, g', rfl, h2, h3⟩
  | _ => exact hq
end

/-! Comparisons of numbers. -/
def cmpZ : BinOp → Int → Int → Bool
  | .eql, a, b => a == b
  | .neq, a, b => a != b
  | .lss, a, b => a < b
  | .leq, a, b => a ≤ b
  | .gtr, a, b => a > b
  | .geq, a, b => a ≥ b
  | _, _, _ => false
theorem cmp_int {P : Program} {op : BinOp} {t : TypeId} {x y : Operand} {a b : Int} {k : IntKind} {d : Bool} (ho : isCmp op = true) (h : cmpZ op a b = d) : CmpIs P op t x y (.int k a) (.int k b) d := by
  subst h
  intro s
  cases op <;> simp only [isCmp] at ho <;> first | (simp at ho; done) | skip
  all_goals
    show emb P (Sem.bind (Sem.pure ()) fun _ => if k ≠ k then (stuck "BinOp: operands of different kinds" : Sem Value) else _) s = _
    simp only [Sem.bind, ne_eq, not_true, if_false]
    rfl
end Go.Dee
