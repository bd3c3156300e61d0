/- The law's own function, by the contracts of all that it calls. -/
import Derived.Test.YtmopbdalpkcffaaDoorCsSum
import Derived.Test.YtmopbdalpkcffaaDoorCsLines
import Derived.Test.YtmopbdalpkcffaaDoorDee26
namespace Go.Proofs.YtmopbdalpkcffaaDoor
open Go Go.Dee Go.RowKit Go.Proofs
abbrev Tab (w : World) : Prop := Lib.TabIs Tryd.prog w "internal/strconv.uint64pow10" .u64 Lib.pow10Tab

/-! Plain functions. -/
def untal : Value → Option (Nat → Int)
  | .agg ⟨[.int .i64 a0, .int .i64 a1, .int .i64 a2, .int .i64 a3, .int .i64 a4, .int .i64 a5, .int .i64 a6, .int .i64 a7, .int .i64 a8, .int .i64 a9, .int .i64 a10, .int .i64 a11, .int .i64 a12, .int .i64 a13, .int .i64 a14, .int .i64 a15, .int .i64 a16, .int .i64 a17, .int .i64 a18, .int .i64 a19, .int .i64 a20, .int .i64 a21]⟩ =>
    some fun | 0 => a0 | 1 => a1 | 2 => a2 | 3 => a3 | 4 => a4 | 5 => a5 | 6 => a6 | 7 => a7 | 8 => a8 | 9 => a9 | 10 => a10 | 11 => a11 | 12 => a12 | 13 => a13 | 14 => a14 | 15 => a15 | 16 => a16 | 17 => a17 | 18 => a18 | 19 => a19 | 20 => a20 | _ => a21
  | _ => none
theorem untal_spec {v : Value} {x : Nat → Int} (h : untal v = some x) : v = tal x := by
  unfold untal at h
  split at h
  · simp only [Option.some.injEq] at h
    subst h
    rfl
  · simp at h
def rng (x : Nat → Int) : Prop := ∀ i, i < 22 → I64 (x i)
def cAll (l : List Value) : Prop := ∀ v ∈ l, ∀ x, untal v = some x → rng x
def fLess (l : List Value) : Option Value := match l with
  | [a, b] => match untal a, untal b with
    | some x, some y => some (tal fun i => IntKind.i64.wrap (x i - y i))
    | _, _ => none
  | _ => none
def fRefLess (l : List Value) : Option Value := match l with
  | [a, b] => match untal a, untal b with
    | some x, some y => some (tal fun i => IntKind.i64.wrap (x i + IntKind.i64.wrap (-1 * y i)))
    | _, _ => none
  | _ => none
def fLine (l : List Value) : Option Value := match l with
  | [a] => match untal a with
    | some x => some (.string (lineS x))
    | _ => none
  | _ => none
def fAlive (l : List Value) : Option Value := match l with
  | [] => some (.bool true)
  | _ => none
def yes (_ : List Value) : Prop := True
theorem tals_plain (x y : Nat → Int) : noAddrl [tal x, tal y] = true := by simp only [noAddrl, tal_plain, Bool.and_true]
theorem owes_less : Owes Tryd.prog 7 Tab yes fLess := by
  intro l v h _
  unfold fLess at h
  split at h
  case h_2 => simp at h
  split at h
  case h_2 => simp at h
  rename_i a b x y ha hb
  simp only [Option.some.injEq] at h
  subst h
  rw [untal_spec ha, untal_spec hb]
  exact ⟨tals_plain x y, tal_plain _, fun w hw => less_calls w hw x y⟩
theorem owes_refLess : Owes Tryd.prog 8 Tab yes fRefLess := by
  intro l v h _
  unfold fRefLess at h
  split at h
  case h_2 => simp at h
  split at h
  case h_2 => simp at h
  rename_i a b x y ha hb
  simp only [Option.some.injEq] at h
  subst h
  rw [untal_spec ha, untal_spec hb]
  exact ⟨tals_plain x y, tal_plain _, fun w hw => refLess_calls w hw x y⟩
theorem owes_line : Owes Tryd.prog 9 Tab cAll fLine := by
  intro l v h hc
  unfold fLine at h
  split at h
  case h_2 => simp at h
  split at h
  case h_2 => simp at h
  rename_i x ha
  simp only [Option.some.injEq] at h
  subst h
  have hr := hc _ (List.mem_singleton.2 rfl) x ha
  rw [untal_spec ha]
  exact ⟨by simp only [noAddrl, tal_plain, Bool.and_true], rfl, fun w hw => line_calls w hw hr⟩
theorem owes_refLine : Owes Tryd.prog 10 Tab cAll fLine := by
  intro l v h hc
  unfold fLine at h
  split at h
  case h_2 => simp at h
  split at h
  case h_2 => simp at h
  rename_i x ha
  simp only [Option.some.injEq] at h
  subst h
  have hr := hc _ (List.mem_singleton.2 rfl) x ha
  rw [untal_spec ha]
  exact ⟨by simp only [noAddrl, tal_plain, Bool.and_true], rfl, fun w hw => refLine_calls w hw hr⟩
theorem owes_alive : Owes Tryd.prog 4 Tab yes fAlive := by
  intro l v h _
  unfold fAlive at h
  split at h
  case h_2 => simp at h
  simp only [Option.some.injEq] at h
  subst h
  exact ⟨rfl, rfl, fun w hw => alive_calls w hw⟩

/-! Sums: of rows that came in; of rows that were laid; of none. -/
def unrow (row : Nat → Nat → XV) (i j : Nat) : Int := match row i j with
  | .v (.int _ z) => z
  | _ => 0
def RowsAre (n m size c : Nat) (row : Nat → Nat → XV) : Prop := size = 22 ∧ m = n ∧ c = OPEN + n ∧ n ≤ 9223372036854775807 ∧ ∀ i j, row i j = .v (.int .i64 (unrow row i j))
def dInts (b : Nat) : Nat → Nat → M (List Int)
  | 0, _ => pure []
  | n + 1, i => (rd b i).bind fun
    | .int .i64 z => (dInts b n (i + 1)).bind fun l => pure (z :: l)
    | _ => fail
noncomputable def oSum (S : (Nat → Nat → Int) → Nat → Nat → Int) (args : Array Value) : M Value := match args.toList with
  | [.slice none n c] => if n = 0 ∧ c = 0 then pure (tal fun _ => 0) else fail
  | [.slice (some a) n c] => if a.off = 0 && a.spot.isNone then (isRows a.block).bind fun
    | some (m, size, row) => (put (RowsAre n m size c row)).bind fun _ => open Classical in if RowsAre n m size c row then pure (tal (S (unrow row) n)) else fail
    | none => if n = 2 ∧ c = 2 then (dInts a.block 44 0).bind fun l => pure (tal (S (fun i j => l.getD (22 * i + j) 0) 2)) else fail
    else fail
  | _ => fail
def uSum (S : (Nat → Nat → Int) → Nat → Nat → Int) (args : Array Value) : M Value := match args.toList with
  | [.slice none n c] => if n = 0 ∧ c = 0 then pure (tal fun _ => 0) else fail
  | [.slice (some a) n c] => if a.off = 0 && a.spot.isNone then (isRows a.block).bind fun
    | some (m, size, row) => (put (RowsAre n m size c row)).bind fun _ => pure (tal (S (unrow row) n))
    | none => if n = 2 ∧ c = 2 then (dInts a.block 44 0).bind fun l => pure (tal (S (fun i j => l.getD (22 * i + j) 0) 2)) else fail
    else fail
  | _ => fail
theorem dInts_lcl (b : Nat) : ∀ n i, Lcl (dInts b n i)
  | 0, _ => Lcl.pure _
  | n + 1, i => by
    refine Lcl.bind (Lcl.rd _ _) fun v => ?_
    split
    · exact Lcl.bind (dInts_lcl b n (i + 1)) fun _ => Lcl.pure _
    · exact Lcl.fail
theorem dInts_still (b : Nat) : ∀ n i, Still (dInts b n i)
  | 0, _ => Still.pure _
  | n + 1, i => by
    refine Still.bind (Still.rd _ _) fun v => ?_
    split
    · exact Still.bind (dInts_still b n (i + 1)) fun _ => Still.pure _
    · exact Still.fail
theorem dInts_some {b : Nat} : ∀ (n i : Nat) (s s' : S) (l : List Int), dInts b n i s = some (l, s') → Same s s' ∧ l.length = n ∧
    ∀ (P : Program) (ν : Nm) (w : World) (L : Dee.Loc), R P ν s w → ν b = some L → ∀ (q : Nat) (z : Int), l[q]? = some z → w.cell? ⟨L.blk, L.base + (i + q), none⟩ = some (.int .i64 z)
  | 0, i, s, s', l, h => by
    obtain ⟨rfl, rfl⟩ := pure_some h
    exact ⟨Same.refl _, rfl, fun P ν w L _ _ q z hq => by simp at hq⟩
  | n + 1, i, s, s', l, h => by
    obtain ⟨v, s1, h1, h2⟩ := M.bind_some h
    obtain ⟨len, e, m, fz, hm, hi, hv, ht, hS⟩ := rd_some h1
    split at h2
    case h_2 => exact (fail_some h2).elim
    rename_i z
    obtain ⟨l', s2, h3, h4⟩ := M.bind_some h2
    obtain ⟨rfl, rfl⟩ := pure_some h4
    obtain ⟨k1, k2, k3⟩ := dInts_some n (i + 1) _ _ l' h3
    refine ⟨hS.trans k1, by simp [k2], fun P ν w L hR hL q z' hq => ?_⟩
    cases q with
    | zero =>
      simp at hq
      subst hq
      obtain ⟨v', c1, c2⟩ := hR.read hm hi hv ht hL
      simp only [VRel] at c2
      subst c2
      exact c1
    | succ q =>
      have := k3 P ν w L (hR.same hS) hL q z' (by simpa using hq)
      rw [show i + 1 + q = i + (q + 1) from by omega] at this
      exact this
theorem oSum_lcl (S) (args : Array Value) : Lcl (oSum S args) := by
  unfold oSum
  split
  · exact Lcl.ite (Lcl.pure _) Lcl.fail
  · refine Lcl.ite (Lcl.bind (Lcl.isRows _) fun x => ?_) Lcl.fail
    split
    · refine Lcl.bind (Lcl.put _) fun _ => ?_
      split
      · exact Lcl.pure _
      · exact Lcl.fail
    · exact Lcl.ite (Lcl.bind (dInts_lcl _ _ _) fun _ => Lcl.pure _) Lcl.fail
  · exact Lcl.fail
theorem put_rfc {α : Type} {o : Prop} {p : M α} {d : Decidable o} (hp : Still p) : Rf ((put o).bind fun _ => @ite _ o d p fail) ((put o).bind fun _ => p) := by
  intro s t r s' e hr
  have h0 := Rf.bind (Rf.put o) (fun _ => hp.rf) s t r s' e hr
  refine ⟨h0.1, fun hh => ?_⟩
  obtain ⟨u, s1, h1, h2⟩ := M.bind_some hr
  simp only [put, Option.some.injEq, Prod.mk.injEq] at h1
  obtain ⟨_, rfl⟩ := h1
  have hc : o := hh _ (by rw [(hp _ _ _ _ (Eqv.refl _) h2).1]; simp)
  rw [if_pos hc]
  exact h0.2 hh
theorem oSum_rf (S) (args : Array Value) : Rf (oSum S args) (uSum S args) := by
  unfold oSum uSum
  generalize args.toList = l
  split
  · exact Rf.ite (Rf.pure _) Rf.fail
  · refine Rf.ite (Rf.bind (Still.isRows _).rf fun x => ?_) Rf.fail
    split
    · exact put_rfc (Still.pure _)
    · exact Rf.ite (Rf.bind (dInts_still _ _ _).rf fun _ => Rf.pure _) Rf.fail
  · exact Rf.fail
theorem oSum_ok {E : Env} {c : Dee.Start} {f : FuncId} {S : (Nat → Nat → Int) → Nat → Nat → Int} (hcl : NoOwn c) (hP : E.P = Tryd.prog) (htab : Tab c.w)
    (hnil : ∀ w, Tab w → Calls Tryd.prog f #[.slice none 0 0] w fun e w' => e = .returned (tal fun _ => 0) ∧ Below w.heap.size w w')
    (hsum : ∀ w, Tab w → ∀ (X : Nat → Nat → Int) (n : Nat) (L : Dee.Loc), RowsHere w [xd X n] [L] → n ≤ 9223372036854775807 →
      Calls Tryd.prog f #[.slice (some ⟨L.blk, L.base, none⟩) n (n + L.slack)] w fun e w' => e = .returned (tal (S X n)) ∧ Below w.heap.size w w') : OrcOk E c f (oSum S) := by
  intro args s v s' hrun ν w args' hg hR hA hF
  rw [hP] at hR ⊢
  have hT : Tab w := Lib.tabBelow_of_tabIs htab w (hg.below hcl)
  unfold oSum at hrun
  generalize he : args.toList = al at hrun
  have ha := ofToList he
  split at hrun
  case h_3 => exact (fail_some hrun).elim
  case h_1 n cap =>
    split at hrun
    case isFalse => exact (fail_some hrun).elim
    rename_i hn
    obtain ⟨rfl, rfl⟩ := pure_some hrun
    obtain ⟨rfl, rfl⟩ := hn
    subst ha
    have ha' : args' = #[.slice none 0 0] := by
      obtain ⟨b, y, e, k, r⟩ := VRels.toList hA
      simp only [VRel] at k
      simp only [VRell] at r
      obtain ⟨_, rfl⟩ := k
      subst r
      exact ofToList e
    subst ha'
    refine (hnil w hT).mono ?_
    rintro e w' ⟨rfl, hb⟩
    exact ⟨ν, Post.below hR hb, noAddr_rel (tal_plain _)⟩
  case h_2 a n cap =>
    split at hrun
    case isFalse => exact (fail_some hrun).elim
    rename_i hoff
    simp only [Bool.and_eq_true, decide_eq_true_eq, Option.isNone_iff_eq_none] at hoff
    obtain ⟨x, s1, h1, h2⟩ := M.bind_some hrun
    obtain ⟨hS, hx⟩ := isRows_some h1
    subst ha
    obtain ⟨L, hL, ha'⟩ : ∃ L, ν a.block = some L ∧ args' = #[.slice (some ⟨L.blk, L.base, none⟩) n (if cap < OPEN then cap else cap - OPEN + L.slack)] := by
      obtain ⟨b, y, e, ⟨b2, L, ⟨_, L2, q1, rfl⟩, q2, rfl⟩, r⟩ := VRels.toList hA
      simp only [VRell] at r
      subst r
      rw [q2] at q1
      obtain rfl := Option.some.inj q1
      exact ⟨L, q2, by rw [hoff.1] at e; exact ofToList e⟩
    subst ha'
    cases x with
    | some y =>
      obtain ⟨m, size, row⟩ := y
      simp only [] at h2
      obtain ⟨u, s2, h3, h4⟩ := M.bind_some h2
      have hS2 := hS.trans (put_some h3)
      split at h4
      case isFalse => exact (fail_some h4).elim
      rename_i hok
      obtain ⟨rfl, rfl⟩ := pure_some h4
      obtain ⟨rfl, rfl, rfl, hn, hrow⟩ := hok
      obtain ⟨L', hL', hX⟩ := hg.rows _ _ _ _ (hx _ _ _ rfl)
      rw [hL] at hL'
      obtain rfl := Option.some.inj hL'
      have hrw : row = (xd (unrow row) m).row := by funext i j; exact hrow i j
      rw [if_neg (by omega), Nat.add_sub_cancel_left]
      refine (hsum w hT (unrow row) m L ⟨rfl, fun i x L' hi hj => ?_⟩ hn).mono ?_
      · cases i with
        | succ i => simp at hi
        | zero =>
          simp only [List.getElem?_cons_zero, Option.some.injEq] at hi hj
          subst hi hj
          rw [hrw] at hX
          exact hX.mono fun r hr => ⟨hr.1, rfl⟩
      · rintro e w' ⟨rfl, hb⟩
        exact ⟨ν, (Post.below hR hb).same hS2, noAddr_rel (tal_plain _)⟩
    | none =>
      simp only [] at h2
      split at h2
      case isFalse => exact (fail_some h2).elim
      rename_i hn
      obtain ⟨rfl, rfl⟩ := hn
      obtain ⟨l, s2, h3, h4⟩ := M.bind_some h2
      obtain ⟨rfl, rfl⟩ := pure_some h4
      obtain ⟨k1, k2, k3⟩ := dInts_some _ _ _ _ _ h3
      have hS2 := hS.trans k1
      have hc := k3 _ ν w L (hR.same hS) hL
      rw [if_pos (by decide)]
      refine (hsum w hT (fun i j => l.getD (22 * i + j) 0) 2 ⟨L.blk, L.base, 0⟩ ⟨rfl, fun i x L' hi hj => ?_⟩ (by decide)).mono ?_
      · cases i with
        | succ i => simp at hi
        | zero =>
          simp only [List.getElem?_cons_zero, Option.some.injEq] at hi hj
          subst hi hj
          have hcell : ∀ q, q < 44 → w.cell? ⟨L.blk, L.base + q, none⟩ = some (.int .i64 (l.getD q 0)) := fun q hq => by
            have := hc q (l.getD q 0) (by rw [List.getD_eq_getElem?_getD, List.getElem?_eq_getElem (by omega)]; rfl)
            rw [Nat.zero_add] at this
            exact this
          refine ⟨?_, fun i j hi hj => ?_⟩
          · have h0 := hcell 0 (by omega)
            obtain ⟨rc, re, rf, g1, _⟩ := cell_block rfl h0
            exact heap_lt g1
          · refine ⟨_, ?_, rfl, fun ν => noAddr_rel rfl⟩
            change i < 2 at hi
            change j < 22 at hj
            have := hcell (22 * i + j) (by omega)
            rw [show L.base + (22 * i + j) = L.base + i * 22 + j from by omega] at this
            exact this
      · rintro e w' ⟨rfl, hb⟩
        exact ⟨ν, (Post.below hR hb).same hS2, noAddr_rel (tal_plain _)⟩
end Go.Proofs.YtmopbdalpkcffaaDoor
