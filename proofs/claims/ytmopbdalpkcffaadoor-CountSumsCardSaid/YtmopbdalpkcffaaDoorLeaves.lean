/- What a reading of data says of the cells: numbers, bools, strings, and slices of such. -/
import Derived.OpenShut
import Derived.WideShapes
import Derived.ChangeArms
import Derived.DataReads
namespace Go.LawRow
open Go

inductive Lf where
  | int (k : IntKind)
  | bool
  | str
  | sl (size : Nat) (ls : Nat → Lf)

def LfOk (w : World) : Lf → Value → Prop
  | .int k, v => ∃ n, v = .int k n ∧ k.min ≤ n ∧ n ≤ k.max
  | .bool, v => ∃ b, v = .bool b
  | .str, v => ∃ s, v = .string s ∧ s.size ≤ maxLen
  | .sl size ls, v => v = .slice none 0 0 ∨ ∃ a len cap, v = .slice (some a) len cap ∧ len ≤ cap ∧ cap ≤ maxLen ∧
      ∀ i j, i < cap → j < size → ∃ z, w.cell? (a.add (i * size + j)) = some z ∧ LfOk w (ls j) z

def lvAll (g : Field → Option (List Lf)) : Nat → List Field → Option (List Lf)
  | _, [] => some []
  | off, f :: fs => if f.offset = off then match g f with
    | some l => match lvAll g (off + l.length) fs with
      | some r => some (l ++ r)
      | none => none
    | none => none
    else none
def lvRep (l : List Lf) : Nat → List Lf
  | 0 => []
  | n + 1 => l ++ lvRep l n
/-- A type's leaves. -/
def lvs (P : Program) : Nat → TypeId → Option (List Lf)
  | 0, _ => none
  | d + 1, t => match P.underlying t with
    | some .bool => some [.bool]
    | some (.int k) => some [.int k]
    | some .string => some [.str]
    | some (.slice e) => match lvs P d e with
      | some l => if l.length = P.cellsOf e then some [.sl l.length fun j => l.getD j .bool] else none
      | none => none
    | some (.struct fs) => match lvAll (fun f => match lvs P d f.type with
        | some l => if l.length = P.cellsOf f.type then some l else none
        | none => none) 0 fs.toList with
      | some l => if l.length = P.cellsOf t then some l else none
      | none => none
    | some (.array n e) => match lvs P d e with
      | some l => if l.length = P.cellsOf e ∧ n * l.length = P.cellsOf t then some (lvRep l n) else none
      | none => none
    | _ => none

def Fits (w : World) (ls : List Lf) (cs : List Value) : Prop := cs.length = ls.length ∧ ∀ (j : Nat) (l : Lf), ls[j]? = some l → ∃ v, cs[j]? = some v ∧ LfOk w l v
theorem Fits.append {w : World} {l l' : List Lf} {c c' : List Value} (h : Fits w l c) (k : Fits w l' c') : Fits w (l ++ l') (c ++ c') := by
  refine ⟨by simp [h.1, k.1], fun j x hx => ?_⟩
  rcases Nat.lt_or_ge j l.length with q | q
  · rw [List.getElem?_append_left q] at hx
    obtain ⟨v, a, b⟩ := h.2 j x hx
    exact ⟨v, by rw [List.getElem?_append_left (by rw [h.1]; exact q)]; exact a, b⟩
  · rw [List.getElem?_append_right q] at hx
    obtain ⟨v, a, b⟩ := k.2 _ x hx
    exact ⟨v, by rw [List.getElem?_append_right (by rw [h.1]; exact q), h.1]; exact a, b⟩

section
variable {H : Type} {enc : TypeId × Value → H} {P : Program} {w : World} {held : Bool}
theorem block_add (a : Addr) (n : Nat) : (a.add n).block = a.block := by unfold Addr.add; split <;> rfl
theorem add_add' (a : Addr) (i j : Nat) : (a.add i).add j = a.add (i + j) := by
  unfold Addr.add
  by_cases hi : i = 0 <;> by_cases hj : j = 0 <;> simp [hi, hj, Nat.add_assoc]

theorem fits_of_trod : ∀ (d : Nat) (t : TypeId) (ls : List Lf), lvs P d t = some ls → ∀ (fuel : Nat) (cs : List Value) (x : DataW H × List MemPlace),
    DataW.trod enc P w 0 (fun _ => true) held fuel t cs = some x → Fits w ls cs := by
  intro d
  induction d with
  | zero => intro t ls h; simp [lvs] at h
  | succ d ih =>
    intro t ls h fuel cs x hx
    cases fuel with
    | zero => simp [DataW.trod] at hx
    | succ fuel =>
    unfold lvs at h
    split at h
    · rename_i hu
      simp only [Option.some.injEq] at h; subst h
      unfold DataW.trod at hx
      rw [hu] at hx
      split at hx <;> simp_all
      exact ⟨rfl, fun j l hj => by
        cases j with
        | zero => simp at hj; subst hj; exact ⟨_, rfl, _, rfl⟩
        | succ j => simp at hj⟩
    · rename_i k hu
      simp only [Option.some.injEq] at h; subst h
      unfold DataW.trod at hx
      rw [hu] at hx
      split at hx <;> simp_all
      rename_i k' n _ _
      obtain ⟨⟨rfl, hw⟩, _⟩ := hx
      refine ⟨rfl, fun j l hj => ?_⟩
      cases j with
      | zero =>
        simp at hj; subst hj
        simp only [Lit.wf, Bool.and_eq_true, decide_eq_true_eq] at hw
        exact ⟨_, rfl, _, rfl, hw.1, hw.2⟩
      | succ j => simp at hj
    · rename_i hu
      simp only [Option.some.injEq] at h; subst h
      unfold DataW.trod at hx
      rw [hu] at hx
      split at hx <;> simp_all
      refine ⟨rfl, fun j l hj => ?_⟩
      cases j with
      | zero => simp at hj; subst hj; exact ⟨_, rfl, _, rfl, hx.1⟩
      | succ j => simp at hj
    · rename_i e hu
      split at h
      case h_2 => simp at h
      rename_i l hl
      split at h
      case isFalse => simp at h
      rename_i hlen
      simp only [Option.some.injEq] at h; subst h
      rcases DataW.trod_slice hu hx with ⟨rfl, _⟩ | ⟨a, len, cap, elems, rest, n, _, rfl, _, _, h1, h2, h3, h4, h5, _⟩
      · exact ⟨rfl, fun j x hj => by
          cases j with
          | zero => simp at hj; subst hj; exact ⟨_, rfl, .inl rfl⟩
          | succ j => simp at hj⟩
      · refine ⟨rfl, fun j x hj => ?_⟩
        cases j with
        | succ j => simp at hj
        | zero =>
          simp at hj; subst hj
          refine ⟨_, rfl, .inr ⟨a, len, cap, rfl, h1, h2, fun i j hi hj => ?_⟩⟩
          have key : ∃ y, (w.cells? 0 (a.add (i * P.cellsOf e)) (P.cellsOf e)).bind (DataW.trod enc P w 0 (fun _ => true) held n e) = some y := by
            by_cases hil : i < len
            · rw [h4 i hil]
              exact ⟨_, List.getElem?_eq_getElem (by omega)⟩
            · obtain ⟨g1, g2⟩ := h5 rfl
              have := g2 (i - len) (by omega)
              rw [show len + (i - len) = i from by omega] at this
              rw [this]
              exact ⟨_, List.getElem?_eq_getElem (by omega)⟩
          obtain ⟨y, hy⟩ := key
          obtain ⟨cs', c1, c2⟩ := Option.bind_eq_some_iff.1 hy
          obtain ⟨_, c3, c4⟩ := World.cells?_some c1
          obtain ⟨f1, f2⟩ := ih e l hl n cs' y c2
          have hj' : j < l.length := hj
          have e1 : l[j]? = some (l.getD j .bool) := by
            rw [List.getD_eq_getElem?_getD, List.getElem?_eq_getElem hj']; rfl
          obtain ⟨v, v1, v2⟩ := f2 j _ e1
          refine ⟨v, ?_, v2⟩
          rw [← add_add', hlen, c4 j (by omega)]
          exact v1
    · rename_i fs hu
      split at h
      case h_2 => simp at h
      rename_i l hl
      split at h
      case isFalse => simp at h
      rename_i hlen
      simp only [Option.some.injEq] at h; subst h
      obtain ⟨xs, n, _, _, h3, h4, h5⟩ := DataW.trod_struct hu hx
      have key : ∀ (gs : List Field) (i off : Nat) (r : List Lf), (∀ j f, gs[j]? = some f → fs[i + j]? = some f) → lvAll (fun f => match lvs P d f.type with
          | some l => if l.length = P.cellsOf f.type then some l else none
          | none => none) off gs = some r → Fits w r ((cs.drop off).take r.length) := by
        intro gs
        induction gs with
        | nil =>
          intro i off r _ hr
          simp only [lvAll, Option.some.injEq] at hr
          subst hr
          exact ⟨by simp, fun j l hj => by simp at hj⟩
        | cons f gs ihg =>
          intro i off r hg hr
          simp only [lvAll] at hr
          split at hr
          case isFalse => simp at hr
          rename_i hoff
          split at hr
          case h_2 => simp at hr
          rename_i lf hlf
          split at hr
          case h_2 => simp at hr
          rename_i r' hr'
          simp only [Option.some.injEq] at hr
          subst hr
          split at hlf
          case h_2 => simp at hlf
          rename_i lf' hlf'
          split at hlf
          case isFalse => simp at hlf
          rename_i hlfl
          simp only [Option.some.injEq] at hlf
          subst hlf
          have hf := hg 0 f rfl
          rw [Nat.add_zero] at hf
          have htr := h5 i f hf
          have hxi : i < xs.length := by rw [h4]; exact (Array.getElem?_eq_some_iff.1 hf).1
          rw [List.getElem?_eq_getElem hxi] at htr
          have a1 := ih f.type lf' hlf' n _ _ htr
          have a2 := ihg (i + 1) (off + lf'.length) r' (fun j f hj => by
            have := hg (j + 1) f (by simpa using hj)
            rw [show i + 1 + j = i + (j + 1) from by omega]; exact this) hr'
          have := a1.append a2
          rw [hoff, ← hlfl] at this
          have e : (cs.drop off).take lf'.length ++ ((cs.drop (off + lf'.length)).take r'.length) = (cs.drop off).take (lf' ++ r').length := by
            rw [List.length_append, List.take_add, List.drop_drop]
          rw [e] at this
          exact this
      have := key fs.toList 0 0 _ (fun j f hj => by simpa using hj) hl
      rw [List.drop_zero, List.take_of_length_le (by rw [h3, hlen]; exact Nat.le_refl _)] at this
      exact this
    · rename_i n e hu
      split at h
      case h_2 => simp at h
      rename_i l hl
      split at h
      case isFalse => simp at h
      rename_i hlen
      simp only [Option.some.injEq] at h; subst h
      obtain ⟨xs, m, _, _, h3, h4, h5⟩ := DataW.trod_array hu hx
      have key : ∀ k i, i + k = n → Fits w (lvRep l k) ((cs.drop (i * l.length)).take (k * l.length)) := by
        intro k
        induction k with
        | zero => intro i _; exact ⟨by simp [lvRep], fun j l hj => by simp [lvRep] at hj⟩
        | succ k ihk =>
          intro i hi
          have htr := h5 i (by omega)
          rw [List.getElem?_eq_getElem (by omega)] at htr
          have a1 := ih e l hl m _ _ htr
          have a2 := ihk (i + 1) (by omega)
          have := a1.append a2
          rw [← hlen.1] at this
          have e : (cs.drop (i * l.length)).take l.length ++ ((cs.drop ((i + 1) * l.length)).take (k * l.length)) = (cs.drop (i * l.length)).take ((k + 1) * l.length) := by
            rw [show (k + 1) * l.length = l.length + k * l.length from by rw [Nat.add_mul, Nat.one_mul, Nat.add_comm], List.take_add, List.drop_drop, show (i + 1) * l.length = i * l.length + l.length from by rw [Nat.add_mul, Nat.one_mul]]
          rw [e] at this
          exact this
      have := key n 0 (by omega)
      rw [Nat.zero_mul, List.drop_zero, List.take_of_length_le (by rw [h3, hlen.2]; exact Nat.le_refl _)] at this
      exact this
    · simp at h
end
end Go.LawRow
