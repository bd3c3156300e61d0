/- Dee, part 19: closed calls; functions of the library by their contracts. -/
import Derived.Test.YtmopbdalpkcffaaDoorDee18
import Derived.Shelf.Strconv.Itoa3
import Derived.Shelf.Strings.OnBuilder
import Derived.Lib.AppendIntMem
namespace Go.Dee
open Go Go.RowKit

/-! Where a closed call begins: nothing is known of the memory. -/
def nu0 (P : Program) : Nm := fun b => if b ≤ P.globals.size then some ⟨b, 0, 0⟩ else none
def st0 (P : Program) : S := { h := .e, n := P.globals.size + 1, on := false, log := [] }
theorem gok0 (P : Program) : GOk P (nu0 P) := fun g hg => by simp [nu0, hg]
theorem st0_at (P : Program) (b j : Nat) : (st0 P).at b j = none := rfl
theorem r0 (P : Program) (w : World) : R P (nu0 P) (st0 P) w where
  blk := fun b m h => by rw [st0_at] at h; simp at h
  apart := fun b b' m m' L L' h => by rw [st0_at] at h; simp at h
theorem own0 (P : Program) (r : Nat) : ¬ Own (nu0 P) (st0 P) r := by
  rintro ⟨b, m, L, h, _⟩
  rw [st0_at] at h
  simp at h
theorem rows0 (P : Program) (w : World) : RowsOk (nu0 P) (st0 P) w := fun b n size row h => by rw [st0_at] at h; simp at h
theorem fresh0 (P : Program) (hi : Nat) : Fresh (nu0 P) (st0 P).n hi := fun b h _ => by
  have : ¬ b ≤ P.globals.size := by change P.globals.size + 1 ≤ b at h; omega
  simp [nu0, this]

def start0 (P : Program) (w : World) : Start := ⟨nu0 P, st0 P, w⟩

/-- Nothing of what was there is written. -/
def NoOwn (c : Start) : Prop := ∀ r, ¬ Own c.ν c.s r
theorem clean0 (P : Program) (w : World) : NoOwn (start0 P w) := fun r => own0 P r
theorem Ctx.below {E : Env} {c : Start} {w : World} {ν : Nm} {s : S} (h : Ctx E c ν s w) (hc : NoOwn c) : Below c.w.heap.size c.w w :=
  ⟨h.since.os, h.since.tape, h.since.output, h.since.size, fun k hk => h.since.keep k hk (hc _)⟩

/-- Did it answer true? -/
def outB (r : Option (CR × S)) : Bool := match r with
  | some (.ok (.bool true), _) => true
  | _ => false

theorem closed_true {E : Env} {w : World} (hE : E.Ok (start0 E.P w)) {k : Nat} {f : FuncId} (h : outB (call E k f #[] (st0 E.P)) = true) :
    Calls E.P f #[] w fun e w' => e = .returned (.bool true) ∧ Below w.heap.size w w' := by
  cases hc : call E k f #[] (st0 E.P) with
  | none => rw [hc] at h; simp [outB] at h
  | some r =>
    obtain ⟨r, s'⟩ := r
    rw [hc] at h
    have hr : r = .ok (.bool true) := by
      cases r with
      | error c => simp [outB] at h
      | ok v => cases v <;> simp [outB] at h; rename_i b; cases b <;> simp at h ⊢
    subst hr
    refine ((sound hE k).call f #[] _ _ s' hc (nu0 E.P) w #[] (Ctx.start (gok0 _) (rows0 _ _)) (r0 _ _) VRels.nil (fresh0 _ _)).mono ?_
    rintro e w' ⟨ν', hp, hm⟩
    cases e with
    | returned v' =>
      simp only [VRel] at hm
      subst hm
      exact ⟨rfl, hp.2.os, hp.2.tape, hp.2.output, hp.2.size, fun r hr => hp.2.keep r hr (own0 _ _)⟩
    | panicked c => exact hm.elim
    | outgrown => exact hm.elim

/-- A call that leaves alone what was there. -/
theorem Post.below {P : Program} {ν : Nm} {s : S} {w w' : World} (hR : R P ν s w) (h : Below w.heap.size w w') : Post P ν s w ν s w' := by
  have hb : ∀ b m L, ν b = some L → BRel P ν s b L w m → BRel P ν s b L w' m := by
    intro b m L hL hB
    cases m with
    | dead => trivial
    | rows n size row => trivial
    | obj o =>
      obtain ⟨o', p, _⟩ := id hB
      have hlt := (Array.getElem?_eq_some_iff.1 p).1
      exact hB.ext (Nm.le_refl _) (fun _ => rfl) (h.block _ hlt)
    | cells len e m fz =>
      obtain ⟨rc, re, rf, p, _⟩ := id hB
      have hlt := (Array.getElem?_eq_some_iff.1 p).1
      exact hB.ext (Nm.le_refl _) (fun _ => rfl) (h.block _ hlt)
  refine ⟨⟨fun b m hm hl => ?_, hR.apart⟩, Nat.le_refl _, h.os, h.tape, h.output, h.size, fun r hr _ => h.block r hr, fun _ h => .inl h, Nm.le_refl _, fun _ h _ => h, fun _ _ _ _ h => .inl h⟩
  obtain ⟨L, p, q⟩ := hR.blk b m hm hl
  exact ⟨L, p, hb b m L p q⟩

theorem below_grow (w : World) (k : Nat) (os : Array Obj) : Below w.heap.size w (Sort.grow (w.drewN k) os) := by
  refine ⟨rfl, rfl, rfl, ?_, fun i hi => ?_⟩
  · simp only [Sort.grow, World.drewN, Array.size_append]; omega
  · simp only [Sort.grow, World.drewN]
    exact Array.getElem?_append_left hi

/-! strconv.Itoa, strconv.FormatInt at base 10. -/
def digs : Nat → Nat → List UInt8
  | 0, _ => []
  | f + 1, u => if u < 10 then [UInt8.ofNat (48 + u)] else digs f (u / 10) ++ [UInt8.ofNat (48 + u % 10)]
theorem digs_eq : ∀ (f u : Nat), u < 10 ^ f → 0 < f → digs f u = Lib.decDigits u := by
  intro f
  induction f with
  | zero => intro u _ h; omega
  | succ f ih =>
    intro u h _
    rw [Lib.decDigits]
    simp only [digs]
    by_cases hu : u < 10
    · rw [if_pos hu, dif_pos hu]
    · rw [if_neg hu, dif_neg hu]
      have hf : 0 < f := by
        rcases Nat.eq_zero_or_pos f with e | e
        · subst e; simp at h; omega
        · exact e
      rw [ih (u / 10) (by rw [Nat.pow_succ] at h; omega) hf]
def dItoa (n : Int) : List UInt8 := if n < 0 then 45 :: digs 20 n.natAbs else digs 20 n.toNat
theorem dItoa_eq {n : Int} (h0 : -9223372036854775808 ≤ n) (h1 : n ≤ 9223372036854775807) : dItoa n = Lib.itoa n := by
  unfold dItoa Lib.itoa
  by_cases h : n < 0
  · rw [if_pos h, if_pos h, digs_eq 20 _ (by have : (10 : Nat) ^ 20 = 100000000000000000000 := by decide
                                             omega) (by omega)]
  · rw [if_neg h, if_neg h, digs_eq 20 _ (by have : (10 : Nat) ^ 20 = 100000000000000000000 := by decide
                                             omega) (by omega)]

def I64 (n : Int) : Prop := -9223372036854775808 ≤ n ∧ n ≤ 9223372036854775807

def oItoa (args : Array Value) : M Value := match args.toList with
  | [.int .i64 n] => if -9223372036854775808 ≤ n && n ≤ 9223372036854775807 then (put (I64 n)).bind fun _ => pure (.string ⟨(dItoa n).toArray⟩) else fail
  | _ => fail
def oFmt10 (args : Array Value) : M Value := match args.toList with
  | [.int .i64 n, .int .i64 10] => if -9223372036854775808 ≤ n && n ≤ 9223372036854775807 then (put (I64 n)).bind fun _ => pure (.string ⟨(dItoa n).toArray⟩) else fail
  | _ => fail

theorem ofToList {args : Array Value} {l : List Value} (h : args.toList = l) : args = l.toArray := by rw [← h]

section
variable {E : Env} {w0 : World} {f : FuncId}

def OrcOk (E : Env) (c : Start) (f : FuncId) (p : Array Value → M Value) : Prop :=
  ∀ args s v s', p args s = some (v, s') → ∀ ν w args', Ctx E c ν s w → R E.P ν s w → VRels ν args args' → Fresh ν s.n s'.n →
    Calls E.P f args' w (CallPost E.P ν s w s' (.ok v))

theorem oItoa_lcl (args : Array Value) : Lcl (oItoa args) := by
  unfold oItoa
  split
  · exact Lcl.ite (Lcl.bind (Lcl.put _) fun _ => Lcl.pure _) Lcl.fail
  · exact Lcl.fail
theorem oFmt10_lcl (args : Array Value) : Lcl (oFmt10 args) := by
  unfold oFmt10
  split
  · exact Lcl.ite (Lcl.bind (Lcl.put _) fun _ => Lcl.pure _) Lcl.fail
  · exact Lcl.fail

theorem oItoa_ok {c : Start} (hcl : NoOwn c) (htab : Lib.TabIs E.P c.w "internal/strconv.uint64pow10" .u64 Lib.pow10Tab)
    (hc : ∀ (n : Int), -9223372036854775808 ≤ n → n ≤ 9223372036854775807 → ∀ (w : World), Lib.TabIs E.P w "internal/strconv.uint64pow10" .u64 Lib.pow10Tab →
      Calls E.P f #[.int .i64 n] w fun e w' => e = .returned (.string ⟨(Lib.itoa n).toArray⟩) ∧ ∃ k os, w' = Sort.grow (w.drewN k) os) : OrcOk E c f oItoa := by
  intro args s v s' hrun ν w args' hg hR hA hF
  unfold oItoa at hrun
  generalize he : args.toList = al at hrun
  split at hrun
  case h_2 => exact (fail_some hrun).elim
  rename_i n
  split at hrun
  case isFalse => exact (fail_some hrun).elim
  rename_i hn
  simp only [Bool.and_eq_true, decide_eq_true_eq] at hn
  obtain ⟨u, s1, hput, hrun⟩ := M.bind_some hrun
  have hS := put_some hput
  obtain ⟨rfl, rfl⟩ := pure_some hrun
  have ha := ofToList he
  subst ha
  have ha' : args' = #[.int .i64 n] := by
    obtain ⟨b, y, e, k, r⟩ := VRels.toList hA
    simp only [VRel] at k
    simp only [VRell] at r
    subst k r
    exact ofToList e
  subst ha'
  refine (hc n hn.1 hn.2 w (Lib.tabBelow_of_tabIs htab w (hg.below hcl))).mono ?_
  rintro e w' ⟨rfl, k, os, rfl⟩
  refine ⟨ν, (Post.below hR (below_grow w k os)).trans ⟨R.same hS (Post.below hR (below_grow w k os)).1, Fr.same _ hS⟩, ?_⟩
  simp only [VRel, dItoa_eq hn.1 hn.2]
theorem oFmt10_ok {c : Start} (hcl : NoOwn c) (htab : Lib.TabIs E.P c.w "internal/strconv.uint64pow10" .u64 Lib.pow10Tab)
    (hc : ∀ (n : Int), -9223372036854775808 ≤ n → n ≤ 9223372036854775807 → ∀ (w : World), Lib.TabIs E.P w "internal/strconv.uint64pow10" .u64 Lib.pow10Tab →
      Calls E.P f #[.int .i64 n, .int .i64 10] w fun e w' => e = .returned (.string ⟨(Lib.itoa n).toArray⟩) ∧ ∃ k os, w' = Sort.grow (w.drewN k) os) : OrcOk E c f oFmt10 := by
  intro args s v s' hrun ν w args' hg hR hA hF
  unfold oFmt10 at hrun
  generalize he : args.toList = al at hrun
  split at hrun
  case h_2 => exact (fail_some hrun).elim
  rename_i n
  split at hrun
  case isFalse => exact (fail_some hrun).elim
  rename_i hn
  simp only [Bool.and_eq_true, decide_eq_true_eq] at hn
  obtain ⟨u, s1, hput, hrun⟩ := M.bind_some hrun
  have hS := put_some hput
  obtain ⟨rfl, rfl⟩ := pure_some hrun
  have ha := ofToList he
  subst ha
  have ha' : args' = #[.int .i64 n, .int .i64 10] := by
    obtain ⟨b, y, e, k, b2, y2, e2, k2, r⟩ := VRels.toList hA
    simp only [VRel] at k k2
    simp only [VRell] at r
    subst k k2 r e2
    exact ofToList e
  subst ha'
  refine (hc n hn.1 hn.2 w (Lib.tabBelow_of_tabIs htab w (hg.below hcl))).mono ?_
  rintro e w' ⟨rfl, k, os, rfl⟩
  refine ⟨ν, (Post.below hR (below_grow w k os)).trans ⟨R.same hS (Post.below hR (below_grow w k os)).1, Fr.same _ hS⟩, ?_⟩
  simp only [VRel, dItoa_eq hn.1 hn.2]

/-! strings.Join -/
def dStrs (b : Nat) : Nat → Nat → M (List ByteArray)
  | 0, _ => pure []
  | n + 1, i => (rd b i).bind fun
    | .string s => (dStrs b n (i + 1)).bind fun l => pure (s :: l)
    | _ => fail
def oJoin (args : Array Value) : M Value := match args.toList with
  | [.slice none n _, .string _] => if n = 0 then pure (.string ⟨#[]⟩) else fail
  | [.slice (some a) n c, .string sep] =>
    if a.spot.isSome then fail else
    if n ≤ (if c < OPEN then c else c - OPEN) && n ≤ 140737488355328 then
      (dStrs a.block n a.off).bind fun xs =>
        if (Lib.join (xs.map (·.data.toList)) sep.data.toList).length ≤ 140737488355328 then (put ((Lib.join (xs.map (·.data.toList)) sep.data.toList).length ≤ 140737488355328)).bind fun _ => pure (.string ⟨(Lib.join (xs.map (·.data.toList)) sep.data.toList).toArray⟩) else fail
    else fail
  | _ => fail
theorem dStrs_lcl (b : Nat) : ∀ n i, Lcl (dStrs b n i)
  | 0, _ => Lcl.pure _
  | n + 1, i => by
    refine Lcl.bind (Lcl.rd _ _) fun v => ?_
    split
    · exact Lcl.bind (dStrs_lcl b n (i + 1)) fun _ => Lcl.pure _
    · exact Lcl.fail
theorem dStrs_some {b : Nat} : ∀ (n i : Nat) (s s' : S) (xs : List ByteArray), dStrs b n i s = some (xs, s') → Same s s' ∧ xs.length = n ∧
    ∀ (P : Program) (ν : Nm) (w : World) (L : Loc), R P ν s w → ν b = some L → ∀ (j : Nat) x, xs[j]? = some x → w.cell? ⟨L.blk, L.base + (i + j), none⟩ = some (.string x) := by
  intro n
  induction n with
  | zero =>
    intro i s s' xs h
    obtain ⟨rfl, rfl⟩ := pure_some h
    exact ⟨Same.refl _, rfl, by simp⟩
  | succ n ih =>
    intro i s s' xs h
    obtain ⟨v, s1, h1, h2⟩ := M.bind_some h
    cases v <;> simp only [] at h2 <;> first | exact (fail_some h2).elim | skip
    rename_i x0
    obtain ⟨ys, s2, h3, h4⟩ := M.bind_some h2
    obtain ⟨rfl, rfl⟩ := pure_some h4
    obtain ⟨len, e, m, fz, g1, g2, g3, g4, g5⟩ := rd_some h1
    obtain ⟨q1, q2, q3⟩ := ih (i + 1) s1 _ ys h3
    refine ⟨g5.trans q1, by simp [q2], fun P ν w L hR hL j x hj => ?_⟩
    cases j with
    | zero =>
      simp at hj
      subst hj
      obtain ⟨v', p, q⟩ := hR.read g1 g2 g3 g4 hL
      simp only [VRel] at q
      subst q
      exact p
    | succ j =>
      have := q3 P ν w L (hR.same g5) hL j x (by simpa using hj)
      rw [show i + 1 + j = i + (j + 1) from by omega] at this
      exact this
theorem oJoin_lcl (args : Array Value) : Lcl (oJoin args) := by
  unfold oJoin
  split
  · exact Lcl.ite (Lcl.pure _) Lcl.fail
  · exact Lcl.ite Lcl.fail (Lcl.ite (Lcl.bind (dStrs_lcl _ _ _) fun l => Lcl.ite (Lcl.bind (Lcl.put _) fun _ => Lcl.pure _) Lcl.fail) Lcl.fail)
  · exact Lcl.fail

theorem oJoin_ok {c : Start} (h0 : ∀ (a : Option Addr) (c : Nat) (sep : ByteArray) (w : World), Calls E.P f #[.slice a 0 c, .string sep] w fun e w' => e = .returned (.string ⟨#[]⟩) ∧ w' = w)
    (hc : ∀ (bk o c : Nat) (xs : List ByteArray) (sep : ByteArray) (w : World), (∀ (j : Nat) x, xs[j]? = some x → w.cell? ⟨bk, o + j, none⟩ = some (.string x)) → bk < w.heap.size → xs.length ≤ 140737488355328 → xs.length ≤ c →
      (Lib.join (xs.map (·.data.toList)) sep.data.toList).length ≤ 140737488355328 →
      Calls E.P f #[.slice (some ⟨bk, o, none⟩) xs.length c, .string sep] w fun e w' => e = .returned (.string ⟨(Lib.join (xs.map (·.data.toList)) sep.data.toList).toArray⟩) ∧ Below w.heap.size w w') :
    OrcOk E c f oJoin := by
  intro args s v s' hrun ν w args' hg hR hA hF
  unfold oJoin at hrun
  generalize he : args.toList = al at hrun
  split at hrun
  case h_3 => exact (fail_some hrun).elim
  case h_1 =>
    rename_i n c sep
    split at hrun
    case isFalse => exact (fail_some hrun).elim
    rename_i hn
    subst hn
    obtain ⟨rfl, rfl⟩ := pure_some hrun
    have ha := ofToList he
    subst ha
    have ha' : args' = #[.slice none 0 c, .string sep] := by
      obtain ⟨b, y, e, k, b2, y2, e2, k2, r⟩ := VRels.toList hA
      simp only [VRel] at k k2
      simp only [VRell] at r
      obtain ⟨_, k⟩ := k
      subst k k2 r e2
      exact ofToList e
    subst ha'
    refine (h0 none c sep w).mono ?_
    rintro e w' ⟨rfl, rfl⟩
    exact ⟨ν, .refl hR, by simp only [VRel]⟩
  case h_2 =>
    rename_i a n c sep
    split at hrun
    case isTrue => exact (fail_some hrun).elim
    rename_i hsp
    have hsp : a.spot = none := by simpa using hsp
    by_cases hn : (decide (n ≤ (if c < OPEN then c else c - OPEN)) && decide (n ≤ 140737488355328)) = true
    case neg => rw [if_neg hn] at hrun; exact (fail_some hrun).elim
    rw [if_pos hn] at hrun
    simp only [Bool.and_eq_true, decide_eq_true_eq] at hn
    obtain ⟨xs, s1, h1, h2⟩ := M.bind_some hrun
    obtain ⟨hS1, hxl, hcell⟩ := dStrs_some _ _ _ _ _ h1
    split at h2
    case isFalse => exact (fail_some h2).elim
    rename_i hlen
    obtain ⟨u, s2, hput, h2⟩ := M.bind_some h2
    have hS := hS1.trans (put_some hput)
    obtain ⟨rfl, rfl⟩ := pure_some h2
    have ha := ofToList he
    subst ha
    obtain ⟨b, y, e, k, b2, y2, e2, k2, r⟩ := VRels.toList hA
    simp only [VRel] at k k2
    simp only [VRell] at r
    obtain ⟨a', L, ⟨_, L2, hL2, rfl⟩, hL, rfl⟩ := k
    subst k2 r e2
    rw [hL] at hL2
    obtain rfl := Option.some.inj hL2
    have ha' := ofToList e
    subst ha'
    have hcap : xs.length ≤ (if c < OPEN then c else c - OPEN + L.slack) := by
      have := hn.1
      split <;> split at this <;> omega
    have cellOf : ∀ (j : Nat) x, xs[j]? = some x → w.cell? ⟨L.blk, L.base + a.off + j, none⟩ = some (.string x) := by
      intro j x hj
      have := hcell E.P ν w L hR hL j x hj
      rw [← Nat.add_assoc] at this
      exact this
    subst hxl
    rcases Nat.eq_zero_or_pos xs.length with hz | hz
    · have hx0 : xs = [] := List.length_eq_zero_iff.1 hz
      subst hx0
      refine (h0 _ _ sep w).mono ?_
      rintro e w' ⟨rfl, rfl⟩
      exact ⟨ν, (Post.refl hR).trans ⟨hR.same hS, Fr.same w' hS⟩, by simp only [VRel]; rfl⟩
    · have hbk : L.blk < w.heap.size := by
        have := cellOf 0 xs[0] (by simp [hz])
        unfold World.cell? at this
        rcases Nat.lt_or_ge L.blk w.heap.size with q | q
        · exact q
        · rw [Array.getElem?_eq_none q] at this; simp at this
      refine (hc L.blk (L.base + a.off) _ xs sep w cellOf hbk hn.2 hcap hlen).mono ?_
      rintro e w' ⟨rfl, hb⟩
      exact ⟨ν, (Post.below hR hb).trans ⟨R.same hS (Post.below hR hb).1, Fr.same w' hS⟩, by simp only [VRel]⟩
end

/-! The table of types, looked at. -/
def zerosOk (P : Program) : Bool := P.types.all fun i => match i.zero with
  | none => true
  | some v => noAddr v && v.cells.size == i.size
def GoodI (i : TypeInfo) : Prop := ∀ v, i.zero = some v → noAddr v = true ∧ v.cells.size = i.size

theorem forIn_inv {α β : Type} {I : β → Prop} {f : α → β → Option (ForInStep β)} (hf : ∀ a b r, I b → f a b = some r → I (match r with | .yield x => x | .done x => x)) :
    ∀ (l : List α) (b c : β), I b → forIn l b f = some c → I c := by
  intro l
  induction l with
  | nil => intro b c hb h; simp at h; exact h ▸ hb
  | cons a l ih =>
    intro b c hb h
    rw [List.forIn_cons] at h
    cases hr : f a b with
    | none => rw [hr] at h; simp at h
    | some r =>
      rw [hr] at h
      have hi := hf a b r hb hr
      cases r with
      | done x => simp at h; exact h ▸ hi
      | yield x => exact ih x c hi (by simpa using h)

theorem noAddrl_append : ∀ {a b : List Value}, noAddrl a = true → noAddrl b = true → noAddrl (a ++ b) = true
  | [], _, _, h => h
  | x :: a, b, h, k => by
    simp only [noAddrl, Bool.and_eq_true] at h
    simp only [List.cons_append, noAddrl, Bool.and_eq_true]
    exact ⟨h.1, noAddrl_append h.2 k⟩
theorem noAddrs_append {a b : Array Value} (h : noAddrs a = true) (k : noAddrs b = true) : noAddrs (a ++ b) = true := by
  cases a; cases b
  simp only [noAddrs, List.append_toArray] at *
  exact noAddrl_append h k
theorem noAddrs_cells {v : Value} (h : noAddr v = true) : noAddrs v.cells = true := by
  cases v <;> first | (simp only [Value.cells]; simp only [noAddr] at h; exact h) | (simp only [Value.cells, noAddrs, noAddrl, h, Bool.and_true])

abbrev StT : Type := Array Field × Nat × Nat × Nat × Nat × Bool × Bool × Option (Array Value) × String
def StI (s : StT) : Prop := ∀ z, s.2.2.2.2.2.2.2.1 = some z → noAddrs z = true ∧ z.size = s.2.1
theorem StI.next {s : StT} (h : StI s) {i : TypeInfo} (hi : GoodI i) {z : Array Value}
    (hz : (if s.2.1 + i.size > Made.mostCells then none else do pure ((← s.2.2.2.2.2.2.2.1) ++ (← i.zero).cells) : Option (Array Value)) = some z) :
    noAddrs z = true ∧ z.size = s.2.1 + i.size := by
  split at hz
  · simp at hz
  · cases h1 : s.2.2.2.2.2.2.2.1 with
    | none => rw [h1] at hz; simp at hz
    | some x =>
      cases h2 : i.zero with
      | none => rw [h1, h2] at hz; simp at hz
      | some v =>
        rw [h1, h2] at hz
        simp at hz
        obtain ⟨p, q⟩ := h x h1
        obtain ⟨p2, q2⟩ := hi v h2
        subst hz
        exact ⟨noAddrs_append p (noAddrs_cells p2), by rw [Array.size_append, q, q2]⟩

theorem reckonStruct_good {info : TypeId → Option TypeInfo} {fs : Array Field} {i : TypeInfo} (hi : ∀ t i, info t = some i → GoodI i) (h : Made.reckonStruct info fs = some i) : GoodI i := by
  unfold Made.reckonStruct at h
  simp only [] at h
  rw [← Array.forIn_toList] at h
  obtain ⟨st, h1, h2⟩ := Option.bind_eq_some_iff.1 h
  have inv : StI st := by
    refine forIn_inv (I := StI) (fun f s r hs hr => ?_) _ _ _ ?_ h1
    · obtain ⟨j, g1, g2⟩ := Option.bind_eq_some_iff.1 hr
      have hj := hi _ _ g1
      split at g2
      · simp at g2
      · split at g2
        · simp at g2
        · split at g2
          · simp only [Option.pure_def, Option.bind_eq_bind, Option.bind_some] at g2
            split at g2 <;> (simp only [Option.some.injEq] at g2; subst g2; intro z hz; exact StI.next hs hj hz)
          · obtain ⟨tag, _, g3⟩ := Option.bind_eq_some_iff.1 g2
            split at g3 <;> (simp only [Option.pure_def, Option.some.injEq] at g3; subst g3; intro z hz; exact StI.next hs hj hz)
    · intro z hz
      simp at hz
      subst hz
      simp [noAddrs, noAddrl]
  split at h2 <;>
  · simp only [Option.pure_def, Option.some.injEq] at h2
    subst h2
    intro v hv
    simp only [Option.map_eq_some_iff] at hv
    obtain ⟨z, hz, rfl⟩ := hv
    obtain ⟨p, q⟩ := inv z hz
    exact ⟨p, q⟩

theorem word_good {d : TypeDesc} {s : String} {z : Value} {c : Bool} {b : Nat} (h : noAddr z = true) (hc : z.cells.size = 1) : GoodI (Made.word d s z c b) := by
  intro v hv
  simp only [Made.word, Option.some.injEq] at hv
  subst hv
  exact ⟨h, hc⟩
theorem noAddrs_replicate {z : Array Value} (h : noAddrs z = true) : ∀ n, noAddrs ((Array.replicate n z).flatten) = true
  | 0 => by simp [noAddrs, noAddrl]
  | n + 1 => by
    rw [Array.replicate_succ', Array.flatten_append]
    simpa using noAddrs_append h (noAddrs_replicate h n)
theorem reckon_good {info : TypeId → Option TypeInfo} {d : TypeDesc} {i : TypeInfo} (hi : ∀ t i, info t = some i → GoodI i) (h : Made.reckon info d = some i) : GoodI i := by
  unfold Made.reckon at h
  have word : ∀ (d : TypeDesc) (s : String) (z : Value) (c : Bool) (b : Nat), noAddr z = true → z.cells.size = 1 → some (Made.word d s z c b) = some i → GoodI i := by
    intro d s z c b h1 h2 e
    exact Option.some.inj e ▸ word_good h1 h2
  cases d <;> simp only [] at h
  case struct fs => exact reckonStruct_good hi h
  case pointer e =>
    obtain ⟨j, _, h⟩ := Option.bind_eq_some_iff.1 h
    split at h
    · simp at h
    · split at h
      · simp at h
      · obtain ⟨_, _, h⟩ := Option.bind_eq_some_iff.1 h
        exact word _ _ _ _ _ (by simp [noAddr]) rfl h
    · obtain ⟨_, _, h⟩ := Option.bind_eq_some_iff.1 h
      exact word _ _ _ _ _ (by simp [noAddr]) rfl h
  case slice e =>
    obtain ⟨_, _, h⟩ := Option.bind_eq_some_iff.1 h
    obtain ⟨_, _, h⟩ := Option.bind_eq_some_iff.1 h
    exact word _ _ _ _ _ (by simp [noAddr, OPEN]) rfl h
  case map k e =>
    obtain ⟨_, _, h⟩ := Option.bind_eq_some_iff.1 h
    obtain ⟨_, _, h⟩ := Option.bind_eq_some_iff.1 h
    obtain ⟨_, _, h⟩ := Option.bind_eq_some_iff.1 h
    obtain ⟨_, _, h⟩ := Option.bind_eq_some_iff.1 h
    exact word _ _ _ _ _ (by simp [noAddr]) rfl h
  case chan dir e =>
    obtain ⟨_, _, h⟩ := Option.bind_eq_some_iff.1 h
    obtain ⟨_, _, h⟩ := Option.bind_eq_some_iff.1 h
    exact word _ _ _ _ _ (by simp [noAddr]) rfl h
  case func ps rs v =>
    obtain ⟨_, _, h⟩ := Option.bind_eq_some_iff.1 h
    exact word _ _ _ _ _ (by simp [noAddr]) rfl h
  case array n e =>
    obtain ⟨j, hj, h⟩ := Option.bind_eq_some_iff.1 h
    obtain ⟨_, _, h⟩ := Option.bind_eq_some_iff.1 h
    simp only [Option.pure_def, Option.some.injEq] at h
    subst h
    intro v hv
    simp only at hv
    split at hv
    · simp at hv
    · split at hv
      · rename_i hz
        simp only [Option.some.injEq] at hv
        subst hv
        exact ⟨by simp [noAddr, noAddrs, noAddrl], by simp [Value.cells, hz]⟩
      · simp only [Option.map_eq_some_iff] at hv
        obtain ⟨z, hz, rfl⟩ := hv
        obtain ⟨p, q⟩ := hi _ _ hj z hz
        refine ⟨noAddrs_replicate (noAddrs_cells p) n, ?_⟩
        simp [Value.cells] at q ⊢
        rw [q]
  all_goals (simp at h)

theorem infoAt_good {T : Tables} (hT : ∀ (t : Nat) (i : TypeInfo), T.types[t]? = some i → GoodI i) : ∀ (f : Nat) (t : TypeId) (i : TypeInfo), Made.infoAt T f t = some i → GoodI i := by
  intro f
  induction f with
  | zero => intro t i h; simp [Made.infoAt] at h
  | succ f ih =>
    intro t i h
    simp only [Made.infoAt] at h
    split at h
    · exact hT t i h
    · obtain ⟨d, _, h2⟩ := Option.bind_eq_some_iff.1 h
      exact reckon_good (ih ·) h2
theorem info_good {T : Tables} (hT : ∀ (t : Nat) (i : TypeInfo), T.types[t]? = some i → GoodI i) (t : TypeId) (i : TypeInfo) (h : T.info? t = some i) : GoodI i := by
  unfold Tables.info? at h
  split at h
  · exact hT t i h
  · exact infoAt_good hT _ t i h
theorem zerosOk_at {P : Program} (h : zerosOk P = true) {t : TypeId} {i : TypeInfo} {v : Value} (hi : P.info? t = some i) (hv : i.zero = some v) : noAddr v = true ∧ v.cells.size = i.size := by
  unfold zerosOk at h
  rw [Array.all_eq_true_iff_forall_mem] at h
  refine info_good (T := P.toTables) (fun t i ht v hv => ?_) t i hi v hv
  have := h i (Array.mem_of_getElem? ht)
  rw [hv] at this
  simpa using this
theorem zerosOk_zero {P : Program} (h : zerosOk P = true) : ZeroOk P := fun _ _ _ hi hv _ => noAddr_rel (zerosOk_at h hi hv).1
theorem zerosOk_size {P : Program} (h : zerosOk P = true) : ZSize P := fun _ _ _ hi hv => (zerosOk_at h hi hv).2

/-- The functions taken by their contracts, as a list. -/
def orcs (l : List (FuncId × (Array Value → M Value))) (f : FuncId) : Option (Array Value → M Value) := match l with
  | [] => none
  | (g, p) :: l => if f = g then some p else orcs l f
theorem orcs_ok {E : Env} {c : Start} {l : List (FuncId × (Array Value → M Value))} (hn : E.off = false) (hz : zerosOk E.P = true) (ho : E.orc = orcs l)
    (hl : ∀ x ∈ l, (∀ args, Lcl (x.2 args)) ∧ OrcOk E c x.1 x.2) : E.Ok c := by
  have key : ∀ (l : List (FuncId × (Array Value → M Value))) f p, orcs l f = some p → (f, p) ∈ l := by
    intro l
    induction l with
    | nil => intro f p h; simp [orcs] at h
    | cons x l ih =>
      intro f p h
      obtain ⟨g, q⟩ := x
      simp only [orcs] at h
      split at h
      · rename_i e
        subst e
        simp only [Option.some.injEq] at h
        subst h
        simp
      · exact List.mem_cons_of_mem _ (ih f p h)
  refine ⟨⟨hn, fun f p h => ?_⟩, hn, zerosOk_zero hz, zerosOk_size hz, fun f p h => ?_⟩
  · rw [ho] at h; exact (hl _ (key l f p h)).1
  · rw [ho] at h; exact (hl _ (key l f p h)).2
end Go.Dee
