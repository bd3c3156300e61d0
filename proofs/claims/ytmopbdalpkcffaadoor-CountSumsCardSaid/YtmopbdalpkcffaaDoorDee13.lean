/- Dee, part 13: the executor's answer is the machine's. -/
import Derived.Test.YtmopbdalpkcffaaDoorDee12
namespace Go.Dee
open Go

/-! Single steps of a frame that may be a loop's round. -/
def fat (fn : FuncId) (kd : CallKind) (ro : Option Nat) (a : Act) (todo : List Item) : Frame := { fn, tmps := a.tmps, todo, defers := a.defers, mode := .run, kind := kd, roundOf := ro }

section moves
variable {P : Program} {fn : FuncId} {kd : CallKind} {ro : Option Nat} {a : Act} {k : List Item} {cs : List Frame} {w : World}

theorem fat_eval (x : Operand) (todo : List Item) : (fat fn kd ro a todo).eval x = a.eval x := by cases x <;> rfl
theorem fat_eval' (todo : List Item) : (fat fn kd ro a todo).eval = a.eval := funext fun x => fat_eval x todo

theorem m_skip : step P (lone (fat fn kd ro a (.code .skip :: k)) cs w) = .next (lone (fat fn kd ro a k) cs w) := step_lone_go (by simp [stepG, stepG.exec, fat])
theorem m_label {l : Nat} : step P (lone (fat fn kd ro a (.code (.label l) :: k)) cs w) = .next (lone (fat fn kd ro a k) cs w) := step_lone_go (by simp [stepG, stepG.exec, fat])
theorem m_inBlock {id : Nat} : step P (lone (fat fn kd ro a (.inBlock id :: k)) cs w) = .next (lone (fat fn kd ro a k) cs w) := step_lone_go (by simp [stepG, stepG.exec, fat])
theorem m_seq {x y : Code} : step P (lone (fat fn kd ro a (.code (.seq x y) :: k)) cs w) = .next (lone (fat fn kd ro a (.code x :: .code y :: k)) cs w) := step_lone_go (by simp [stepG, stepG.exec, fat])
theorem m_cond {c : Operand} {x y : Code} {t : Bool} (h : a.eval c = .bool t) :
    step P (lone (fat fn kd ro a (.code (.cond c x y) :: k)) cs w) = .next (lone (fat fn kd ro a (.code (if t then x else y) :: k)) cs w) :=
  step_lone_go (by
    have := fat_eval (fn := fn) (kd := kd) (ro := ro) (a := a) c (.code (.cond c x y) :: k)
    simp only [fat] at this
    simp [stepG, stepG.exec, fat, this, h])
theorem m_block {id : Nat} {c : Code} : step P (lone (fat fn kd ro a (.code (.block id c) :: k)) cs w) = .next (lone (fat fn kd ro a (.code c :: .inBlock id :: k)) cs w) := step_lone_go (by simp [stepG, stepG.exec, fat])
theorem m_loop {c : Code} : step P (lone (fat fn kd ro a (.code (.loop c) :: k)) cs w) = .next (lone (fat fn kd ro a (.code c :: .inLoop c :: k)) cs w) := step_lone_go (by simp [stepG, stepG.exec, fat])
theorem m_inLoop {c : Code} : step P (lone (fat fn kd ro a (.inLoop c :: k)) cs w) = .next (lone (fat fn kd ro a (.code c :: .inLoop c :: k)) cs w) := step_lone_go (by simp [stepG, stepG.exec, fat])
theorem m_exit {id : Nat} {k' : List Item} (h : exitTo id k = some k') : step P (lone (fat fn kd ro a (.code (.exit id) :: k)) cs w) = .next (lone (fat fn kd ro a k') cs w) := step_lone_go (by simp [stepG, stepG.exec, fat, h])
theorem m_region {id : Nat} {ops : Array Oper} : step P (lone (fat fn kd ro a (.code (.region id ops false) :: k)) cs w) = .next (lone (fat fn kd ro a (.inRegion ops (List.range ops.size) :: k)) cs w) :=
  step_lone_go (by simp [stepG, stepG.exec, fat])
theorem m_draw {id : Nat} {ops : Array Oper} : step P (lone (fat fn kd ro a (.code (.region id ops true) :: k)) cs w) =
    .next (lone (fat fn kd ro a (.inRegion ops (Region.schedule (P.follows .mixedOrders) ops (w.tape w.drawn (.order fn id))) :: k)) cs { w with drawn := w.drawn + 1 }) :=
  step_lone_go (by simp [stepG, stepG.exec, fat, choose, Sem.run, Question.forced, Question.cut])
theorem m_regionEnd {ops : Array Oper} : step P (lone (fat fn kd ro a (.inRegion ops [] :: k)) cs w) = .next (lone (fat fn kd ro a k) cs w) := step_lone_go (by simp [stepG, stepG.exec, fat])

theorem fat_finish (ops : Array Oper) (i : Nat) (rest : List Nat) (v : Value) :
    (fat fn kd ro a (.inRegion ops (i :: rest) :: k)).finish v = fat fn kd ro (a.put ((ops[i]?).bind (·.dst)) v) (.inRegion ops rest :: k) := by
  cases h : (ops[i]?).bind (·.dst) <;> simp [Frame.finish, fat, Act.put, h]

variable {ops : Array Oper} {i : Nat} {rest : List Nat} {o : Oper}
theorem m_opSkip (ho : ops[i]? = some o) (h : Region.wanted o (yielded ops a.tmps) = false) :
    step P (lone (fat fn kd ro a (.inRegion ops (i :: rest) :: k)) cs w) = .next (lone (fat fn kd ro (a.put o.dst undef) (.inRegion ops rest :: k)) cs w) := by
  have hf := fat_finish (fn := fn) (kd := kd) (ro := ro) (a := a) (k := k) ops i rest undef
  rw [ho, Option.bind_some] at hf
  refine step_lone_go ?_
  simp only [fat] at hf
  simp [stepG, stepG.exec, fat, ho, h, hf]

theorem m_op (ho : ops[i]? = some o) (hw : Region.wanted o (yielded ops a.tmps) = true) (hd : ro = none ∨ isDefer o.op = false) :
    stepG P true { frame := fat fn kd ro a (.inRegion ops (i :: rest) :: k), callers := cs, status := .running, dying := none } w =
      stepG.apply P true (fat fn kd ro a (.inRegion ops (i :: rest) :: k)) cs none (execOp a.eval o) w := by
  have he := fat_eval' (fn := fn) (kd := kd) (ro := ro) (a := a) (.inRegion ops (i :: rest) :: k)
  rcases hd with rfl | hd
  · simp only [fat] at he
    simp [stepG, stepG.exec, stepG.oper, Frame.oper?, fat, ho, hw, he]
  · simp only [fat] at he
    cases ro with
    | none => simp [stepG, stepG.exec, stepG.oper, Frame.oper?, fat, ho, hw, he]
    | some l =>
      cases hop : o.op <;> simp only [hop, isDefer] at hd <;> first | (simp at hd; done) | skip
      all_goals simp [stepG, stepG.exec, stepG.oper, Frame.oper?, fat, ho, hw, he, hop]

section
/-- What an operation comes to is the machine's next step. -/
theorem m_value (ho : ops[i]? = some o) (hw : Region.wanted o (yielded ops a.tmps) = true) (hd : ro = none ∨ isDefer o.op = false) {v : Value} {w' : World}
    (hr : (execOp a.eval o).run P w = .ok (.value v) w') : step P (lone (fat fn kd ro a (.inRegion ops (i :: rest) :: k)) cs w) = .next (lone (fat fn kd ro (a.put o.dst v) (.inRegion ops rest :: k)) cs w') := by
  have hf := fat_finish (fn := fn) (kd := kd) (ro := ro) (a := a) (k := k) ops i rest v
  rw [ho, Option.bind_some] at hf
  refine step_lone_go ?_
  rw [m_op ho hw hd, ← hf]; simp [stepG.apply, hr]
theorem m_valueSkip (ho : ops[i]? = some o) (hw : Region.wanted o (yielded ops a.tmps) = true) (hd : ro = none ∨ isDefer o.op = false) {w' : World}
    (hr : (execOp a.eval o).run P w = .ok .skip w') : step P (lone (fat fn kd ro a (.inRegion ops (i :: rest) :: k)) cs w) = .next (lone (fat fn kd ro (a.put o.dst undef) (.inRegion ops rest :: k)) cs w') := by
  have hf := fat_finish (fn := fn) (kd := kd) (ro := ro) (a := a) (k := k) ops i rest undef
  rw [ho, Option.bind_some] at hf
  refine step_lone_go ?_
  rw [m_op ho hw hd, ← hf]; simp [stepG.apply, hr]
theorem m_defer (ho : ops[i]? = some o) (hw : Region.wanted o (yielded ops a.tmps) = true) (hd : ro = none ∨ isDefer o.op = false) {d : Deferred} {w' : World}
    (hr : (execOp a.eval o).run P w = .ok (.defer d) w') :
    step P (lone (fat fn kd ro a (.inRegion ops (i :: rest) :: k)) cs w) = .next (lone (fat fn kd ro ({ a with defers := d :: a.defers }.put o.dst undef) (.inRegion ops rest :: k)) cs w') := by
  have hf := fat_finish (fn := fn) (kd := kd) (ro := ro) (a := { a with defers := d :: a.defers }) (k := k) ops i rest undef
  rw [ho, Option.bind_some] at hf
  refine step_lone_go ?_
  rw [m_op ho hw hd, ← hf]
  simp only [stepG.apply, Sem.runT_eq, hr, GStep.bare_after]
  rfl
theorem m_enter (ho : ops[i]? = some o) (hw : Region.wanted o (yielded ops a.tmps) = true) (hd : ro = none ∨ isDefer o.op = false) {f : FuncId} {args : Array Value} {w' : World}
    (hr : (execOp a.eval o).run P w = .ok (.enter f args) w') :
    step P (lone (fat fn kd ro a (.inRegion ops (i :: rest) :: k)) cs w) = .next (lone (Frame.enter P f args .normal) (fat fn kd ro a (.inRegion ops (i :: rest) :: k) :: cs) w') :=
  step_lone_go (by rw [m_op ho hw hd]; simp [stepG.apply, hr, fat])
theorem m_round (ho : ops[i]? = some o) (hw : Region.wanted o (yielded ops a.tmps) = true) (hd : ro = none ∨ isDefer o.op = false) {l : Nat} {f : FuncId} {tmps : Array Value} {x y : Code} {w' : World}
    (hr : (execOp a.eval o).run P w = .ok (.round l f tmps x y) w') :
    step P (lone (fat fn kd ro a (.inRegion ops (i :: rest) :: k)) cs w) = .next (lone (Frame.round l f tmps x y .normal) (fat fn kd ro a (.inRegion ops (i :: rest) :: k) :: cs) w') :=
  step_lone_go (by rw [m_op ho hw hd]; simp [stepG.apply, hr])
theorem m_panic (ho : ops[i]? = some o) (hw : Region.wanted o (yielded ops a.tmps) = true) (hd : ro = none ∨ isDefer o.op = false) {v : Value} {w' : World}
    (hr : (execOp a.eval o).run P w = .halt (.panic v) w') :
    step P (lone (fat fn kd ro a (.inRegion ops (i :: rest) :: k)) cs w) = .next (lone { fat fn kd ro a (.inRegion ops (i :: rest) :: k) with mode := .panicking [{ v, recovered := false }] } cs w') :=
  step_lone_go (by rw [m_op ho hw hd]; simp [stepG.apply, hr]; rfl)
end

/-! Loops over functions. -/
theorem m_rangeFunc {f : Operand} {ps : Array Tmp} {x y : Code} {l : Nat} {mark : List Deferred} {w1 w2 : World} {g : FuncId} {args : Array Value}
    (h1 : (Instr.enterLoop fn a.tmps ps x y ro).run P w = .ok (l, mark) w1)
    (h2 : (do let d ← resolve ({ a with defers := mark ++ a.defers } : Act).eval { callee := .value f, args := #[.const (.func (.yield l) #[] #[])], argTypes := #[] } 0; invoke d.target d.args : Sem Next).run P w1 = .ok (.enter g args) w2) :
    step P (lone (fat fn kd ro a (.code (.rangeFunc f ps x y) :: k)) cs w) =
      .next (lone (Frame.enter P g args .normal) (fat fn kd ro { a with defers := mark ++ a.defers } (.inRangeFunc l :: k) :: cs) w2) := by
  have he := fat_eval' (fn := fn) (kd := kd) (ro := ro) (a := { a with defers := mark ++ a.defers }) (.inRangeFunc l :: k)
  refine step_lone_go ?_
  simp only [fat] at he
  have h2' : (do let d ← resolve (Frame.eval { fn := fn, tmps := a.tmps, todo := Item.inRangeFunc l :: k, defers := mark ++ a.defers, mode := FrameMode.run, kind := kd, roundOf := ro }) { callee := .value f, args := #[.const (.func (.yield l) #[] #[])], argTypes := #[] } 0; invoke d.target d.args : Sem Next).run P w1 = .ok (.enter g args) w2 := by
    rw [he]; exact h2
  simp only [stepG, stepG.exec, fat, Sem.runT_eq, h1, GStep.bare_after, stepG.apply]
  rw [h2']
  simp
theorem m_endRangeFunc {l : Nat} {j : Option Code} {w1 : World} (h : (Instr.endLoop l).run P w = .ok j w1) :
    step P (lone (fat fn kd ro a (.endRangeFunc l :: k)) cs w) = .next (lone (fat fn kd ro a ((j.map Item.code).toList ++ k)) cs w1) :=
  step_lone_go (by simp [stepG, stepG.exec, fat, Sem.runT_eq, h])
theorem m_beginRound {l : Nat} {w1 : World} (h : (Instr.beginRound l).run P w = .ok () w1) :
    step P (lone (fat fn kd (some l) a (.beginRound :: k)) cs w) = .next (lone (fat fn kd (some l) a k) cs w1) := by
  refine step_lone_go ?_
  have : (do (some l).elim (stuck "beginRound: no round") Instr.beginRound; pure .skip : Sem Next).run P w = .ok .skip w1 := by
    show (Sem.bind (Instr.beginRound l) _).run P w = _
    rw [run_bind, h]; rfl
  simp only [stepG, stepG.exec, fat, stepG.apply, Sem.runT_eq, this, GStep.bare_after]
  simp [Frame.finish]
theorem m_beginRoundPanic {l : Nat} {v : Value} {w1 : World} (h : (Instr.beginRound l).run P w = .halt (.panic v) w1) :
    step P (lone (fat fn kd (some l) a (.beginRound :: k)) cs w) = .next (lone { fat fn kd (some l) a (.beginRound :: k) with mode := .panicking [{ v, recovered := false }] } cs w1) := by
  refine step_lone_go ?_
  have : (do (some l).elim (stuck "beginRound: no round") Instr.beginRound; pure .skip : Sem Next).run P w = .halt (.panic v) w1 := by
    show (Sem.bind (Instr.beginRound l) _).run P w = _
    rw [run_bind, h]
  simp only [stepG, stepG.exec, fat, stepG.apply, Sem.runT_eq, this, GStep.bare_after]
  simp [Frame.raise]

/-- A round's end. -/
theorem m_roundEnd {l : Nat} {j : Option Code} {v : Value} {c : Frame} {w1 : World} {todo : List Item}
    (ht : (todo = [] ∧ j = none) ∨ (∃ t, todo = .code .ret :: t ∧ j = some .ret) ∨ (∃ id t, todo = .code (.exit id) :: t ∧ exitTo id t = none ∧ j = some (.exit id)))
    (h : (Instr.endRound l j).run P w = .ok v w1) :
    step P (lone (fat fn .normal (some l) a todo) (c :: cs) w) = .next (lone (c.finish v) cs w1) := by
  refine step_lone_go ?_
  rcases ht with ⟨rfl, rfl⟩ | ⟨t, rfl, rfl⟩ | ⟨id, t, rfl, he, rfl⟩
  · simp [stepG, stepG.exec, fat, Sem.runT_eq, h, doReturn]
  · simp [stepG, stepG.exec, fat, Sem.runT_eq, h, doReturn]
  · simp [stepG, stepG.exec, fat, Sem.runT_eq, h, doReturn, he]
theorem m_roundPanic {ch : List PanicEntry} {c : Frame} {todo : List Item} {l : Option Nat} (hd : a.defers = []) (hc : (fat fn kd l a todo).catches P = false) :
    step P (lone { fat fn kd l a todo with mode := .panicking ch } (c :: cs) w) = .next (lone (c.raise ch) cs w) := by
  refine step_lone_go ?_
  have hc' : Frame.catches P { fat fn kd l a todo with mode := .panicking ch } = false := hc
  simp only [fat, hd] at hc'
  simp [stepG, unwind, fat, hd, hc']

/-- A frame that is left, with calls that loops collected. -/
theorem m_collected {b : Nat} {ds calls : List Deferred} {w1 : World} {m : FrameMode} {fr : Frame} (hm : fr.mode = m) (hmr : m ≠ .run) {x : Array Value} (hds : fr.defers = { target := .collected b, args := x } :: ds)
    (h : (Instr.takeDeferred b).run P w = .ok calls w1) :
    step P (lone fr cs w) = .next (lone { fr with defers := calls ++ ds } cs w1) := by
  refine step_lone_go ?_
  subst hm
  cases hf : fr.mode with
  | run => exact absurd hf hmr
  | returning => simp [stepG, hf, unwind, hds, Sem.runT_eq, h]
  | panicking c => simp [stepG, hf, unwind, hds, Sem.runT_eq, h]
theorem m_ret {todo : List Item} : step P (lone (fat fn kd none a (.code .ret :: todo)) cs w) = .next (lone { fat fn kd none a (.code .ret :: todo) with mode := .returning } cs w) :=
  step_lone_go (by simp [stepG, stepG.exec, fat])
theorem m_end : step P (lone (fat fn kd none a []) cs w) = .next (lone { fat fn kd none a [] with mode := .returning } cs w) :=
  step_lone_go (by simp [stepG, stepG.exec, fat])
end moves
end Go.Dee
