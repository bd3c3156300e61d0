/- Dee, part 1: a deterministic executor over an abstract heap (definitions). -/
import Derived.Calls
import Derived.Orders
namespace Go.Dee
open Go

/-! A trie over natural numbers. -/
inductive T (α : Type) where
  | e
  | n (l : T α) (v : Option α) (r : T α)

def T.get {α : Type} : T α → Nat → Option α
  | .e, _ => none
  | .n l v r, k => if k = 0 then v else if k % 2 = 1 then l.get (k / 2) else r.get (k / 2 - 1)

def T.setF {α : Type} : Nat → T α → Nat → α → T α
  | 0, t, _, _ => t
  | f + 1, .e, k, x =>
    if k = 0 then .n .e (some x) .e else if k % 2 = 1 then .n (setF f .e (k / 2) x) none .e else .n .e none (setF f .e (k / 2 - 1) x)
  | f + 1, .n l v r, k, x =>
    if k = 0 then .n l (some x) r else if k % 2 = 1 then .n (setF f l (k / 2) x) v r else .n l v (setF f r (k / 2 - 1) x)

def T.set {α : Type} (t : T α) (k : Nat) (x : α) : T α := T.setF (k + 1) t k x

theorem T.get_setF {α : Type} : ∀ (f : Nat) (t : T α) (k : Nat) (x : α) (j : Nat), k < f → (T.setF f t k x).get j = if j = k then some x else t.get j := by
  intro f
  induction f with
  | zero => intro t k x j h; omega
  | succ f ih =>
    intro t k x j h
    cases t with
    | e =>
      simp only [T.setF]
      split
      · subst k; simp only [T.get]; split <;> simp_all
      · rename_i hk
        split
        · rename_i ho
          simp only [T.get]
          split
          · subst j; rw [if_neg (by omega)]
          · split
            · rw [ih _ _ _ _ (by omega)]; simp only [T.get]
              by_cases e : j = k
              · subst e; simp
              · rw [if_neg (by omega), if_neg e]
            · rw [if_neg (by omega)]
        · rename_i ho
          simp only [T.get]
          split
          · subst j; rw [if_neg (by omega)]
          · split
            · rw [if_neg (by omega)]
            · rw [ih _ _ _ _ (by omega)]; simp only [T.get]
              by_cases e : j = k
              · subst e; simp
              · rw [if_neg (by omega), if_neg e]
    | n l v r =>
      simp only [T.setF]
      split
      · subst k; simp only [T.get]; split <;> simp_all
      · rename_i hk
        split
        · rename_i ho
          simp only [T.get]
          split
          · subst j; rw [if_neg (by omega)]
          · split
            · rw [ih _ _ _ _ (by omega)]
              by_cases e : j = k
              · subst e; simp
              · rw [if_neg (by omega), if_neg e]
            · rw [if_neg (by omega)]
        · rename_i ho
          simp only [T.get]
          split
          · subst j; rw [if_neg (by omega)]
          · split
            · rw [if_neg (by omega)]
            · rw [ih _ _ _ _ (by omega)]
              by_cases e : j = k
              · subst e; simp
              · rw [if_neg (by omega), if_neg e]

@[simp] theorem T.get_set {α : Type} (t : T α) (k : Nat) (x : α) (j : Nat) : (t.set k x).get j = if j = k then some x else t.get j :=
  T.get_setF (k + 1) t k x j (by omega)

def T.ofList {α : Type} (i : Nat) (t : T α) : List α → T α
  | [] => t
  | x :: xs => T.ofList (i + 1) (t.set i x) xs

theorem T.get_ofList {α : Type} : ∀ (l : List α) (i : Nat) (t : T α) (j : Nat), (T.ofList i t l).get j = if i ≤ j ∧ j < i + l.length then l[j - i]? else t.get j := by
  intro l
  induction l with
  | nil => intro i t j; simp [T.ofList]; intro h1 h2; omega
  | cons x xs ih =>
    intro i t j
    simp only [T.ofList, ih, T.get_set, List.length_cons]
    by_cases e : j = i
    · subst e
      rw [if_neg (by omega), if_pos rfl, if_pos (by omega)]; simp
    · by_cases h : i ≤ j ∧ j < i + (xs.length + 1)
      · rw [if_pos (by omega), if_pos h]
        obtain ⟨m, hm⟩ : ∃ m, j = i + 1 + m := ⟨j - i - 1, by omega⟩
        subst hm
        rw [show i + 1 + m - (i + 1) = m from by omega, show i + 1 + m - i = m + 1 from by omega]; simp
      · rw [if_neg (by omega), if_neg e, if_neg h]

/-! The state. -/
inductive BMode where
  | ro | rw | opn
  deriving DecidableEq

/-- Data that are only read: a plain cell; a slice's rows, each of so many cells. -/
inductive XV where
  | v (x : Value)
  | sl (n size : Nat) (row : Nat → Nat → XV)

inductive DM where
  | cells (len : Nat) (elem : TypeId) (m : BMode) (fz : Nat × Nat)
  | obj (o : Obj)
  | dead
  | rows (n size : Nat) (row : Nat → Nat → XV)

inductive KV where
  | val (v : Value)
  | hd (m : DM)

structure S where
  h : T (T KV)
  n : Nat
  on : Bool
  log : List (Nat × Nat × Bool)
  obl : List Prop := []
  say : List (Nat × Bool) := []

def S.at (s : S) (b j : Nat) : Option KV := (s.h.get b).bind (·.get j)
def S.put (s : S) (b j : Nat) (x : KV) : S := { s with h := s.h.set b (((s.h.get b).getD .e).set j x) }

def M (α : Type) : Type := S → Option (α × S)

def M.bind {α β : Type} (x : M α) (f : α → M β) : M β := fun s => match x s with
  | none => none
  | some (a, s') => f a s'

instance : Monad M where
  pure a := fun s => some (a, s)
  bind := M.bind

def fail {α : Type} : M α := fun _ => none
def S.note (s : S) (b j : Nat) (w : Bool) : S := if s.on then { s with log := (b, j, w) :: s.log } else s
def rdK (b j : Nat) : M KV := fun s => if b < s.n then (match s.at b j with
  | none => none
  | some x => some (x, s.note b j false)) else none
def wrK (b j : Nat) (x : KV) : M Unit := fun s => if b < s.n then some ((), (s.put b j x).note b j true) else none
def newB (t : T KV) : M Nat := fun s => some (s.n, { s with n := s.n + 1, h := s.h.set s.n t })

def isTup : Value → Bool
  | .tuple _ => true
  | _ => false

def rd (b i : Nat) : M Value := do
  match ← rdK b 0 with
  | .hd (.cells len _ _ _) =>
    if i < len then
      match ← rdK b (i + 1) with
      | .val v => if isTup v then fail else pure v
      | _ => fail
    else fail
  | _ => fail

def wr (b i : Nat) (v : Value) : M Unit := do
  match ← rdK b 0 with
  | .hd (.cells len _ m fz) => if i < len && m ≠ .ro && !(fz.1 ≤ i && i < fz.2) then wrK b (i + 1) (.val v) else fail
  | _ => fail

def blk (c : List Value) (e : TypeId) (m : BMode) (fz : Nat × Nat) : T KV :=
  (T.ofList 1 (T.n .e (some (.hd (.cells c.length e m fz))) .e) (c.map .val))
def newCells (c : List Value) (e : TypeId) (m : BMode) (fz : Nat × Nat := (0, 0)) : M Nat := newB (blk c e m fz)

def Value.one : Value → Bool
  | .agg _ | .tuple _ => false
  | _ => true

/-- Objects that are no cells. -/
def okObj : Obj → Bool
  | .map _ _ | .stringIter _ _ | .mapIter _ _ _ _ | .loop _ | .deferred _ => true
  | _ => false

def newObjD (o : Obj) : M Nat := match o with
  | .cells c e (0, 0) => newCells c.toList e .rw
  | .cells _ _ _ => fail
  | o => if okObj o then newB (T.n .e (some (.hd (.obj o))) .e) else fail

def emb (P : Program) {α : Type} : Sem α → M (Except Value α)
  | .pure a => pure (.ok a)
  | .load m a k => if m = .plain && a.spot.isNone then (rd a.block a.off).bind fun v => emb P (k v) else fail
  | .store m a v k => if m = .plain && a.spot.isNone && Value.one v then (wr a.block a.off v).bind fun _ => emb P k else fail
  | .new o k => (newObjD o).bind fun r => emb P (k r)
  | .shape _ _ => fail
  | .freeze _ _ _ => fail
  | .frozen _ _ => fail
  | .getObj r k => (rdK r 0).bind fun
    | .hd (.obj o) => emb P (k o)
    | _ => fail
  | .setObj r o k => (rdK r 0).bind fun
    | .hd (.obj _) => if okObj o then (wrK r 0 (.hd (.obj o))).bind fun _ => emb P k else fail
    | _ => fail
  | .choose q k => if q.forced then emb P (k 0) else fail
  | .sys _ _ => fail
  | .program k => emb P (k P)
  | .mark _ _ => fail
  | .halt h => match h with
    | .panic v => pure (.error v)
    | _ => fail

/-- As emb, where a panic ends the execution. -/
def embV (P : Program) {α : Type} (s : Sem α) : M α := (emb P s).bind fun
  | .ok a => pure a
  | .error _ => fail

/-! Slices whose capacity is known from below only bear OPEN + (that bound). -/
def OPEN : Nat := 4611686018427387904

def lenD : Value → Nat
  | .slice _ n _ => n
  | .string s => s.size
  | _ => 0

def shiftFz (fz : Nat × Nat) (off : Nat) : Nat × Nat := (fz.1 - off, fz.2 - off)

def tag : Value → Nat
  | .bool _ => 0
  | .int _ _ => 1
  | .float _ _ => 2
  | .complex _ _ _ => 3
  | .string _ => 4
  | .pointer _ => 5
  | .slice _ _ _ => 6
  | .map _ => 7
  | .chan _ => 8
  | .func _ _ _ => 9
  | .nilFunc => 10
  | .iface _ _ => 11
  | .nilIface => 12
  | .agg _ => 13
  | .tuple _ => 14
def isInt : TypeDesc → Bool
  | .int _ => true
  | _ => false

/-- The built-in append, its operands seen. -/
def dApp (P : Program) (elem : TypeId) (size : Nat) (x : Value) (sLen sCap : Nat) : Option Addr → M Value
  | none => if sLen = 0 ∧ sCap = 0 then
      (embV P (Builtin.firstCells size (lenD x) x)).bind fun new =>
        if lenD x = 0 then pure (.slice none 0 0) else
        (newCells new.toList elem .opn).bind fun b => pure (.slice (some ⟨b, 0, none⟩) (lenD x) (OPEN + lenD x)) else fail
  | some a =>
    if a.spot.isSome then fail else
    if sLen + lenD x ≤ (if sCap < OPEN then sCap else sCap - OPEN) then
      (embV P (Builtin.firstCells size (lenD x) x)).bind fun new => (embV P (storeCells (a.add (sLen * size)) new.toList)).bind fun _ => pure (.slice (some a) (sLen + lenD x) sCap)
    else if sCap < OPEN then
      (embV P (loadCells a (sLen * size))).bind fun old => (embV P (Builtin.firstCells size (lenD x) x)).bind fun new =>
        (newCells (old ++ new).toList elem .opn).bind fun b => pure (.slice (some ⟨b, 0, none⟩) (sLen + lenD x) (OPEN + (sLen + lenD x)))
    else
      (embV P (loadCells a (sLen * size))).bind fun old => (embV P (Builtin.firstCells size (lenD x) x)).bind fun new =>
      (rdK a.block 0).bind fun
      | .hd (.cells len e .opn fz) =>
        if len = a.off + (sCap - OPEN) * size ∧ e = elem ∧ fz.2 ≤ a.off + sLen * size ∧ sLen ≤ sCap - OPEN ∧ new.size = lenD x * size ∧ new.toList.all Value.one = true then
          (wrK a.block 0 (.hd .dead)).bind fun _ =>
          (newCells (old ++ new).toList elem .opn (shiftFz fz a.off)).bind fun b => pure (.slice (some ⟨b, 0, none⟩) (sLen + lenD x) (OPEN + (sLen + lenD x)))
        else fail
      | _ => fail

/-- The built-in append. -/
def dAppend (P : Program) (argTypes : Array TypeId) (args : Array Value) : M Value :=
  match (argTypes[0]? : Option TypeId), (argTypes[1]? : Option TypeId), (args[0]? : Option Value), (args[1]? : Option Value) with
  | some sType, some xType, some (.slice base sLen sCap), some x =>
    match P.underlying sType, P.underlying xType with
    | some (.slice elem), some xd =>
      match P.info? elem with
      | none => fail
      | some info =>
        if isInt xd then fail else
        if info.size = 0 then fail else
        match info.zero with
        | none => fail
        | some _ =>
          if tag x = 6 ∨ tag x = 4 then
            if (3 * (sLen + lenD x) + 2000) * info.bytes ≤ 140737488355328 then
              if sLen + lenD x ≤ 1099511627776 then dApp P elem info.size x sLen sCap base else fail
            else fail
          else fail
    | _, _ => fail
  | _, _, _, _ => fail

/-- A string as bytes of its own. -/
def dBytes (P : Program) (e : TypeId) (s : ByteArray) : M Value :=
  if P.cellsOf e ≠ 1 then fail else
  (newCells (s.data.toList.map fun b => .int .u8 b.toNat) e .opn).bind fun b => pure (.slice (some ⟨b, 0, none⟩) s.size (OPEN + s.size))

/-- May the operation see the capacities of its operands? -/
def boundOk (v : Option Value) (c : Nat) : Bool := match v with
  | none => true
  | some (.int _ i) => 0 ≤ i && i ≤ (c : Int)
  | _ => false
def lowOk (v : Option Value) (c : Nat) : Bool := match v with
  | none => true
  | some (.int _ i) => i = 0 || (0 < i && i < (c : Int))
  | _ => false
def openOk (x : Value) (lo hi mx : Option Value) : Bool := match x with
  | .slice _ n c => c < OPEN || (boundOk hi (c - OPEN) && boundOk mx (c - OPEN) && lowOk lo (c - OPEN) && n ≤ c - OPEN && c < 2 * OPEN)
  | _ => true
def cmpOk (a b : Value) : Bool := !(tag a == 2 || tag a == 3 || tag b == 2 || tag b == 3 || (tag a == 1 && tag b == 1) || (tag a == 4 && tag b == 4))
def isEqOp : BinOp → Bool
  | .eql | .neq => true
  | _ => false
def binGuard (op : BinOp) (a b : Value) : Bool := (tag a == 1 && tag b == 1) || (tag a == 4 && tag b == 4) || (isEqOp op && cmpOk a b)
def unGuard (a : Value) : Bool := tag a == 1 || tag a == 0
def convGuard (P : Program) (src dst : TypeId) (a : Value) : Bool :=
  (match P.underlying src with | some .unsafePointer => false | _ => true) && (match P.underlying dst with | some .unsafePointer => false | _ => true) && (tag a == 1 || tag a == 4 || tag a == 6)
def nilOk : Value → Bool
  | .func (.method _) _ _ => false
  | _ => true
def plainKey : Value → Bool
  | .int _ _ | .string _ | .bool _ => true
  | _ => false
def capOk (P : Program) (ρ : Operand → Value) (o : Oper) : Bool := match o.op with
  | .slice t x lo hi mx => (match P.underlying t with
      | some (.array n _) => n < OPEN
      | some (.pointer a) => (match P.underlying a with | some (.array n _) => n < OPEN | _ => true)
      | _ => true) && openOk (ρ x) (lo.map ρ) (hi.map ρ) (mx.map ρ)
  | .call { callee := .builtin .append, .. } => false
  | .call { callee := .builtin b, args, .. } => match b with
    | .len | .copy | .panic => true
    | .max | .min => args.all fun x => tag (ρ x) == 1 || tag (ρ x) == 4
    | .delete => match args[1]? with
      | some x => plainKey (ρ x)
      | none => true
    | .cap => args.all fun x => match ρ x with | .slice _ _ c => c < OPEN | _ => true
    | _ => false
  | .binOp op _ x y _ => binGuard op (ρ x) (ρ y)
  | .unOp _ _ x => unGuard (ρ x)
  | .convert src dst x => convGuard P src dst (ρ x)
  | .range _ x => tag (ρ x) == 4
  | .next _ is => is
  | .makeSlice _ _ c => match ρ c with
    | .int _ n => (IntKind.i64.wrap n).toNat < OPEN
    | _ => true
  | .buildSlice _ n _ => n < OPEN
  | .lookup _ _ k _ => plainKey (ρ k)
  | .mapUpdate _ _ k _ => plainKey (ρ k)
  | .insert _ _ k _ => plainKey (ρ k)
  | .nilCheck x => nilOk (ρ x)
  | .makeFunc f _ _ => match f with
    | .yield _ => false
    | _ => true
  | .move _ | .assign _ | .pick .. | .alloc _ | .box .. | .build .. | .load .. | .store .. | .makeInterface .. | .makeMap ..
  | .fieldAddr .. | .field .. | .indexAddr .. | .index .. | .typeAssert .. | .extract .. | .defer _ | .panic _ => true
  | .call { callee := .value _, .. } => true
  | .call { callee := .invoke _ _, .. } => true
  | _ => false

inductive Ex where
  | norm
  | exit (id : Nat)
  | goto (l : Nat)
  | ret
  | panic (chain : List PanicEntry)

/-- What one operation comes to. -/
inductive ON where
  | value (v : Value)
  | next (n : Next)
  | error (v : Value)

/-- A string that is made bytes. -/
def asBytes (P : Program) (src dst : TypeId) (x : Value) : Option (TypeId × ByteArray) :=
  match P.underlying src, P.underlying dst, x with
  | some .string, some (.slice e), .string s => match P.underlying e with
    | some (.int .u8) => some (e, s)
    | _ => none
  | _, _, _ => none

/- Constants bear no addresses; variables of the package are there. -/
mutual
def noAddr : Value → Bool
  | .pointer (some _) | .slice (some _) _ _ | .map (some _) | .chan (some _) => false
  | .slice none _ c => c < OPEN
  | .func f x y => (match f with | .yield _ => false | _ => true) && noAddrs x && noAddrs y
  | .iface _ x => noAddr x
  | .agg x => noAddrs x
  | .tuple x => noAddrs x
  | _ => true
def noAddrs : Array Value → Bool
  | ⟨x⟩ => noAddrl x
def noAddrl : List Value → Bool
  | [] => true
  | a :: x => noAddr a && noAddrl x
end
def opndOk (P : Program) : Operand → Bool
  | .const v => noAddr v
  | .global g => g ≤ P.globals.size
  | _ => true
/-- The operands that an operation looks at, and no others. -/
def seenBy (P : Program) (ρ : Operand → Value) (x : Operand) : Value := if opndOk P x then ρ x else .nilFunc

def isAppend : Op → Option (Array Operand × Array TypeId)
  | .call { callee := .builtin .append, args, argTypes } => some (args, argTypes)
  | _ => none
def toBytes (P : Program) (ρ : Operand → Value) : Op → Option (TypeId × ByteArray)
  | .convert src dst x => asBytes P src dst (ρ x)
  | _ => none

def dOper (P : Program) (ρ : Operand → Value) (o : Oper) : M ON :=
  if !(o.op.operands.all (opndOk P)) then fail else
  match isAppend o.op with
  | some (args, argTypes) => (dAppend P argTypes (args.map ρ)).bind fun v => pure (.value v)
  | none =>
    match toBytes P ρ o.op with
    | some (e, s) => (dBytes P e s).bind fun v => pure (.value v)
    | none =>
      if capOk P (seenBy P ρ) o then (emb P (execOp ρ o)).bind fun
        | .error v => pure (.error v)
        | .ok (.value v) => pure (.value v)
        | .ok n => pure (.next n)
      else fail

/-- What is asked of the values, kept. -/
def put (o : Prop) : M Unit := fun s => some ((), { s with obl := o :: s.obl })
/-- Two strings that are made one. -/
def catOf (ρ : Operand → Value) : Op → Option (ByteArray × ByteArray)
  | .binOp .add _ x y _ => match ρ x, ρ y with
    | .string a, .string b => some (a, b)
    | _, _ => none
  | _ => none
def CatOk (a b : ByteArray) : Prop := ¬ ((a.size + b.size : Nat) : Int) > IntKind.i64.max
/-! Rows that are only read: an element's address is a name of its own. -/
def rowIx (ρ : Operand → Value) : Op → Option (TypeId × Addr × Nat × Int)
  | .indexAddr t x i => match ρ x, ρ i with
    | .slice (some a) n _, .int _ i => some (t, a, n, i)
    | _, _ => none
  | _ => none
def isRows (b : Nat) : M (Option (Nat × Nat × (Nat → Nat → XV))) := fun s => if b < s.n then (match s.at b 0 with
  | some (.hd (.rows n size row)) => some (some (n, size, row), s.note b 0 false)
  | _ => some (none, s.note b 0 false)) else some (none, s)
def mkX : XV → M Value
  | .v x => pure x
  | .sl n size row => (newB (T.n .e (some (.hd (.rows n size row))) .e)).bind fun b => pure (.slice (some ⟨b, 0, none⟩) n (OPEN + n))
def mkRow (row : Nat → XV) : Nat → Nat → M (List Value)
  | 0, _ => pure []
  | k + 1, j => (mkX (row j)).bind fun v => (mkRow row k (j + 1)).bind fun l => pure (v :: l)
def dRow (P : Program) (t : TypeId) (a : Addr) (size : Nat) (row : Nat → Nat → XV) (i : Int) : M ON :=
  match P.underlying t with
  | some (.slice e) => match P.info? e with
    | some info => if a.off = 0 && a.spot.isNone && info.size = size && size ≠ 0 then
        (mkRow (row i.toNat) size 0).bind fun l => (newCells l e .ro).bind fun b => pure (.value (.pointer (some ⟨b, 0, none⟩)))
      else fail
    | none => fail
  | _ => fail
def RowOk (n m : Nat) (i : Int) : Prop := 0 ≤ i ∧ i < (n : Int) ∧ n ≤ m
instance (n m : Nat) (i : Int) : Decidable (RowOk n m i) := by unfold RowOk; infer_instance

/-! Comparisons: what comes of them may be said ahead. -/
def isCmp : BinOp → Bool
  | .eql | .neq | .lss | .leq | .gtr | .geq => true
  | _ => false
def cmpOf (ρ : Operand → Value) : Op → Option (BinOp × TypeId × Operand × Operand × Value × Value)
  | .binOp op t x y _ => if isCmp op then some (op, t, x, y, ρ x, ρ y) else none
  | _ => none
/-- The comparison yields d, whatever the memory. -/
def CmpIs (P : Program) (op : BinOp) (t : TypeId) (x y : Operand) (a b : Value) (d : Bool) : Prop :=
  ∀ s : S, emb P (do eqGuard op t x y a b; binOp op t a b) s = some (.ok (.bool d), s)
def sayOr (ok : Bool) (o : Bool → Prop) (p : M ON) : M ON := fun s => match s.say with
  | [] => p s
  | (0, d) :: l => if ok then some (.value (.bool d), { s with say := l, obl := o d :: s.obl }) else none
  | (n + 1, d) :: l => p { s with say := (n, d) :: l }

/-- An operation; off: what it would test of symbols is put off. -/
def dOp (off : Bool) (P : Program) (ρ : Operand → Value) (o : Oper) : M ON :=
  match catOf ρ o.op with
  | some (a, b) => (put (CatOk a b)).bind fun _ =>
    if off then (if !(o.op.operands.all (opndOk P)) then fail else pure (.value (.string (a ++ b)))) else dOper P ρ o
  | none => match rowIx ρ o.op with
    | some (t, a, n, i) => (isRows a.block).bind fun
      | some (m, size, row) => if !(o.op.operands.all (opndOk P)) then fail else (put (RowOk n m i)).bind fun _ =>
        if off then dRow P t a size row i else (if RowOk n m i then dRow P t a size row i else fail)
      | none => dOper P ρ o
    | none => if off then (match cmpOf ρ o.op with
      | some (op, t, x, y, u, v) => sayOr (o.op.operands.all (opndOk P) && capOk P (seenBy P ρ) o) (CmpIs P op t x y u v) (dOper P ρ o)
      | none => dOper P ρ o) else dOper P ρ o

/-! Regions whose order is open: run in the text's order, and looked at. -/
structure Row where
  looks : List Nat
  dst : Option Nat
  log : List (Nat × Nat × Bool)
  lo : Nat
  hi : Nat

/-- Do they meet? The second one stands ahead in the text. -/
def clash (x y : Row) : Bool :=
  (match x.dst with | some d => y.looks.contains d || y.dst == some d | none => false) ||
  (match y.dst with | some d => x.looks.contains d | none => false) ||
  (x.log.any fun e => y.lo ≤ e.1 && e.1 < y.hi) ||
  (x.log.any fun e => e.2.2 && y.log.any fun f => e.1 == f.1 && e.2.1 == f.2.1) ||
  (y.log.any fun f => f.2.2 && x.log.any fun e => e.1 == f.1 && e.2.1 == f.2.1)

def onOf (m : Region.Mode) (o : Oper) : List Nat := (o.after.toList.filter (Region.binds m)).map (·.on)

/-- Each once. -/
def once : List Nat → List Nat → List Nat
  | [], acc => acc
  | x :: l, acc => once l (if acc.contains x then acc else x :: acc)
/-- before i: those that stand ahead of i in every order (and in the text). -/
def aheadOf (m : Region.Mode) (ops : List Oper) : List (List Nat) → List (List Nat)
  | acc => match ops with
    | [] => acc
    | o :: os => aheadOf m os (acc ++ [once (((onOf m o).filter (· < acc.length)).flatMap fun j => j :: (acc.getD j [])) []])

def edgesOk (m : Region.Mode) (ops : List Oper) : Nat → Bool := fun i => match ops with
  | [] => true
  | o :: os => (onOf m o).all (· < i) && edgesOk m os (i + 1)

/-- An order that goes through all. -/
def topo (m : Region.Mode) (ops : Array Oper) : List Nat → List Nat → Bool
  | [], done => (List.range ops.size).all done.contains
  | i :: is, done => (match ops[i]? with
    | some o => (onOf m o).all done.contains
    | none => false) && topo m ops is (i :: done)
def ordOk (m : Region.Mode) (ops : Array Oper) : Bool := edgesOk m ops.toList 0 || topo m ops (Region.linearise m ops 0) []

def modesOf (P : Program) (ops : Array Oper) : List Region.Mode :=
  if P.follows .mixedOrders || !Region.departs ops then [.any] else [.text, .gc]

def apartFrom (ah : List Nat) (x : Row) : Nat → List Row → Bool
  | _, [] => true
  | j, y :: ys => (ah.contains j || !clash x y) && apartFrom ah x (j + 1) ys

def allApart (ah : List (List Nat)) : List Row → List Row → Bool
  | _, [] => true
  | done, x :: xs => apartFrom (ah.getD done.length []) x 0 done && allApart ah (done ++ [x]) xs


def logged {α : Type} (p : M α) : M (α × List (Nat × Nat × Bool) × Nat × Nat) := fun s => match p { s with on := true, log := [] } with
  | none => none
  | some (a, s') => let L := s'.log.filter fun e => e.1 < s.n
    some ((a, L, s.n, s'.n), { s' with on := s.on, log := if s.on then L ++ s.log else s.log })

/-- The program; and functions that are taken by what they answer. -/
structure Env where
  P : Program
  orc : FuncId → Option (Array Value → M Value)
  off : Bool := false

abbrev CR := Except (List PanicEntry) Value

/-- What one operation comes to, its calls made. -/
inductive OpR where
  | val (v : Value)
  | dfr (d : Deferred)
  | pan (chain : List PanicEntry)

def jumpOf : Ex → Option (Option Code)
  | .norm => some none
  | .ret => some (some .ret)
  | .exit id => some (some (.exit id))
  | _ => none

def isDefer : Op → Bool
  | .defer _ => true
  | _ => false

structure Fns where
  exec : FuncId → Option Nat → Code → Act → M (Ex × Act)
  runOps : FuncId → Option Nat → Array Oper → List Nat → Act → M (Ex × Act)
  drawOps : Array Oper → List Nat → Act → List Row → M (Act × List Row)
  runOp : Oper → Act → M OpR
  call : FuncId → Array Value → M CR
  leave : Func → Array Value → Option (List PanicEntry) → List Deferred → M CR
  round : Nat → FuncId → Array Value → Code → Code → M CR

def exec1 (E : Env) (F : Fns) (fn : FuncId) (ro : Option Nat) (c : Code) (a : Act) : M (Ex × Act) :=
  match c with
    | .skip => pure (.norm, a)
    | .label _ => pure (.norm, a)
    | .seq x y => (F.exec fn ro x a).bind fun r => match r.1 with
      | .norm => F.exec fn ro y r.2
      | e => pure (e, r.2)
    | .cond c x y => match a.eval c with
      | .bool b => F.exec fn ro (if b then x else y) a
      | _ => fail
    | .block id c => (F.exec fn ro c a).bind fun r => match r.1 with
      | .exit id' => pure (if id' = id then .norm else .exit id', r.2)
      | e => pure (e, r.2)
    | .loop c => (F.exec fn ro c a).bind fun r => match r.1 with
      | .norm => F.exec fn ro (.loop c) r.2
      | e => pure (e, r.2)
    | .exit id => pure (.exit id, a)
    | .ret => pure (.ret, a)
    | .region _ ops draw =>
      if draw then
        if (modesOf E.P ops).all fun m => ordOk m ops then (F.drawOps ops (List.range ops.size) a []).bind fun r =>
          if (modesOf E.P ops).all fun m => allApart (aheadOf m ops.toList []) [] r.2 then pure (.norm, r.1) else fail
        else fail
      else F.runOps fn ro ops (List.range ops.size) a
    | .rangeFunc f params assign body => if !(opndOk E.P f) then fail else (embV E.P (Instr.enterLoop fn a.tmps params assign body ro)).bind fun lm =>
      let a1 : Act := { a with defers := lm.2 ++ a.defers }
      (embV E.P (do let d ← resolve a1.eval { callee := .value f, args := #[.const (.func (.yield lm.1) #[] #[])], argTypes := #[] } 0; invoke d.target d.args)).bind fun
      | .enter g args => (F.call g args).bind fun
        | .error ch => pure (.panic ch, a1)
        | .ok _ => (embV E.P (Instr.endLoop lm.1)).bind fun
          | none => pure (.norm, a1)
          | some j => F.exec fn ro j a1
      | _ => fail
    | _ => fail

def runOps1 (F : Fns) (fn : FuncId) (ro : Option Nat) (ops : Array Oper) (l : List Nat) (a : Act) : M (Ex × Act) :=
  match l with
    | [] => pure (.norm, a)
    | i :: is => match ops[i]? with
      | none => fail
      | some o =>
        if ro.isSome && isDefer o.op then fail else
        if Region.wanted o (yielded ops a.tmps) then (F.runOp o a).bind fun
          | .val v => F.runOps fn ro ops is (a.put o.dst v)
          | .dfr d => F.runOps fn ro ops is ({ a with defers := d :: a.defers }.put o.dst undef)
          | .pan ch => pure (.panic ch, a)
        else F.runOps fn ro ops is (a.put o.dst undef)

def drawOps1 (F : Fns) (ops : Array Oper) (l : List Nat) (a : Act) (rows : List Row) : M (Act × List Row) :=
  match l with
    | [] => pure (a, rows)
    | i :: is => match ops[i]? with
      | none => fail
      | some o =>
        if isDefer o.op then fail else
        (logged (if Region.wanted o (yielded ops a.tmps) then F.runOp o a else pure (.val undef))).bind fun r => match r.1 with
          | .val v => F.drawOps ops is (a.put o.dst v) (rows ++ [{ looks := o.looksAt ops, dst := o.dst, log := r.2.1, lo := r.2.2.1, hi := r.2.2.2 }])
          | _ => fail

def runOp1 (E : Env) (F : Fns) (o : Oper) (a : Act) : M OpR :=
  (dOp E.off E.P a.eval o).bind fun
    | .value v => pure (.val v)
    | .error v => pure (.pan [{ v, recovered := false }])
    | .next n => match n with
      | .skip => pure (.val undef)
      | .defer d => pure (.dfr d)
      | .enter f args => (F.call f args).bind fun
        | .ok v => pure (.val v)
        | .error ch => pure (.pan ch)
      | .round l f tmps assign body => (F.round l f tmps assign body).bind fun
        | .ok v => pure (.val v)
        | .error ch => pure (.pan ch)
      | _ => fail

def call1 (E : Env) (F : Fns) (f : FuncId) (args : Array Value) : M CR :=
  match E.orc f with
    | some p => (p args).bind fun v => pure (.ok v)
    | none => match E.P.funcs[f]? with
      | none => fail
      | some fn => match fn.body with
        | none => fail
        | some c => (F.exec f none c { tmps := args ++ Array.replicate (fn.ntmps - args.size) undef, defers := [] }).bind fun r => match r.1 with
          | .norm => F.leave fn r.2.tmps none r.2.defers
          | .ret => F.leave fn r.2.tmps none r.2.defers
          | .panic ch => F.leave fn r.2.tmps (some ch) r.2.defers
          | _ => fail

def leave1 (E : Env) (F : Fns) (fn : Func) (tmps : Array Value) (md : Option (List PanicEntry)) (ds : List Deferred) : M CR :=
  match ds with
    | [] => match md with
      | none => (embV E.P (results fn tmps)).bind fun v => pure (.ok v)
      | some ch => pure (.error ch)
    | d :: ds => match d.target with
      | .collected b => (embV E.P (Instr.takeDeferred b)).bind fun calls => F.leave fn tmps md (calls ++ ds)
      | _ => fail

def round1 (E : Env) (F : Fns) (l : Nat) (f : FuncId) (tmps : Array Value) (assign : Code) (body : Code) : M CR :=
  (F.exec f (some l) assign { tmps, defers := [] }).bind fun r => match r.1 with
    | .norm => if !r.2.defers.isEmpty then fail else (emb E.P (Instr.beginRound l)).bind fun
      | .error v => pure (.error [{ v, recovered := false }])
      | .ok _ => (F.exec f (some l) body r.2).bind fun r => if !r.2.defers.isEmpty then fail else match r.1 with
        | .panic ch => pure (.error ch)
        | e => match jumpOf e with
          | none => fail
          | some j => (embV E.P (Instr.endRound l j)).bind fun v => pure (.ok v)
    | _ => fail

def Fns.bot : Fns where
  exec := fun _ _ _ _ => fail
  runOps := fun _ _ _ _ _ => fail
  drawOps := fun _ _ _ _ => fail
  runOp := fun _ _ => fail
  call := fun _ _ => fail
  leave := fun _ _ _ _ => fail
  round := fun _ _ _ _ _ => fail

def Fns.next (E : Env) (F : Fns) : Fns where
  exec := exec1 E F
  runOps := runOps1 F
  drawOps := drawOps1 F
  runOp := runOp1 E F
  call := call1 E F
  leave := leave1 E F
  round := round1 E F

def fns (E : Env) : Nat → Fns
  | 0 => .bot
  | k + 1 => .next E (fns E k)

def exec (E : Env) (k : Nat) : FuncId → Option Nat → Code → Act → M (Ex × Act) := (fns E k).exec
def runOps (E : Env) (k : Nat) : FuncId → Option Nat → Array Oper → List Nat → Act → M (Ex × Act) := (fns E k).runOps
def drawOps (E : Env) (k : Nat) : Array Oper → List Nat → Act → List Row → M (Act × List Row) := (fns E k).drawOps
def runOp (E : Env) (k : Nat) : Oper → Act → M OpR := (fns E k).runOp
def call (E : Env) (k : Nat) : FuncId → Array Value → M CR := (fns E k).call
def leave (E : Env) (k : Nat) : Func → Array Value → Option (List PanicEntry) → List Deferred → M CR := (fns E k).leave
def round (E : Env) (k : Nat) : Nat → FuncId → Array Value → Code → Code → M CR := (fns E k).round

end Go.Dee
