/- Dee, part 9: every operation, as the executor does it. -/
import Derived.Test.YtmopbdalpkcffaaDoorDee8
namespace Go.Dee
open Go
section
variable {P : Program} {ν : Nm}

mutual
theorem noAddr_rel : ∀ {v : Value}, noAddr v = true → VRel ν v v
  | .pointer none, _ => by simp [VRel]
  | .pointer (some _), h => by simp [noAddr] at h
  | .slice none _ c, h => by simp only [noAddr, decide_eq_true_eq] at h; simp [VRel, h]
  | .slice (some _) _ _, h => by simp [noAddr] at h
  | .map none, _ => by simp [VRel]
  | .map (some _), h => by simp [noAddr] at h
  | .chan none, _ => by simp [VRel]
  | .chan (some _), h => by simp [noAddr] at h
  | .func f x y, h => by
    simp only [noAddr, Bool.and_eq_true] at h
    obtain ⟨⟨h1, h2⟩, h3⟩ := h
    refine ⟨f, x, y, ?_, noAddrs_rel h2, noAddrs_rel h3, rfl⟩
    cases f <;> simp [FnRel] at h1 ⊢
  | .iface t x, h => by simp only [noAddr] at h; exact ⟨x, noAddr_rel h, rfl⟩
  | .agg x, h => by simp only [noAddr] at h; exact ⟨x, noAddrs_rel h, rfl⟩
  | .tuple x, h => by simp only [noAddr] at h; exact ⟨x, noAddrs_rel h, rfl⟩
  | .bool _, _ => by simp [VRel]
  | .int _ _, _ => by simp [VRel]
  | .float _ _, _ => by simp [VRel]
  | .complex _ _ _, _ => by simp [VRel]
  | .string _, _ => by simp [VRel]
  | .nilFunc, _ => by simp [VRel]
  | .nilIface, _ => by simp [VRel]
theorem noAddrs_rel : ∀ {v : Array Value}, noAddrs v = true → VRels ν v v
  | ⟨x⟩, h => by simp only [noAddrs] at h; exact noAddrl_rel h
theorem noAddrl_rel : ∀ {v : List Value}, noAddrl v = true → VRell ν v v
  | [], _ => by simp [VRell]
  | a :: x, h => by simp only [noAddrl, Bool.and_eq_true] at h; exact ⟨a, x, rfl, noAddr_rel h.1, noAddrl_rel h.2⟩
end

def TRel (ν : Nm) (a b : Act) : Prop := VRels ν a.tmps b.tmps ∧ LRel (DfRel ν) a.defers b.defers
theorem TRel.mono {ν' : Nm} {a b : Act} (h : TRel ν a b) (k : ν.le ν') : TRel ν' a b := ⟨VRels.mono k h.1, h.2.mono fun _ _ q => q.mono k⟩
theorem undef_rel : VRel ν undef undef := by simp [undef, VRel, VRels, VRell]
theorem TRel.put {a b : Act} (h : TRel ν a b) (d : Option Tmp) {u v : Value} (k : VRel ν u v) : TRel ν (a.put d u) (b.put d v) := by
  cases d with
  | none => exact h
  | some d => exact ⟨h.1.set d k, h.2⟩

theorem eval_rel (hg : GOk P ν) {a b : Act} (h : TRel ν a b) {x : Operand} (hx : opndOk P x = true) : VRel ν (a.eval x) (b.eval x) := by
  cases x with
  | tmp t =>
    show VRel ν (a.tmps.getD t undef) (b.tmps.getD t undef)
    rw [Array.getD_eq_getD_getElem?, Array.getD_eq_getD_getElem?]
    cases e : a.tmps[t]? with
    | none => rw [h.1.get_none e]; exact undef_rel
    | some v => obtain ⟨v', p, q⟩ := h.1.get e; rw [p]; exact q
  | const v => exact noAddr_rel hx
  | global g =>
    simp only [opndOk, decide_eq_true_eq] at hx
    exact ⟨_, ⟨rfl, _, hg g hx, rfl⟩, by simp [Act.eval]⟩
  | func f => exact ⟨_, _, _, rfl, VRels.nil, VRels.nil, rfl⟩

theorem seenBy_rel (hg : GOk P ν) {a b : Act} (h : TRel ν a b) (x : Operand) : VRel ν (seenBy P a.eval x) (seenBy P b.eval x) := by
  unfold seenBy
  split
  · exact eval_rel hg h ‹_›
  · simp [VRel]
theorem seenBy_eq {o : Oper} (h : o.op.operands.all (opndOk P) = true) (ρ : Operand → Value) : ∀ x ∈ o.op.operands, ρ x = seenBy P ρ x := by
  intro x hx
  unfold seenBy
  rw [if_pos]
  rw [Array.all_eq_true'] at h
  exact h x hx

/-- What an operation comes to, over the world: the value, a call, a panic. -/
def ONRel (ν : Nm) : ON → Result Next → World → Prop
  | .value v, r, w' => ∃ n, r = .ok n w' ∧ NxRel ν (.value v) n
  | .next n, r, w' => ∃ m, r = .ok m w' ∧ NxRel ν n m
  | .error v, r, w' => ∃ v', r = .halt (.panic v') w' ∧ VRel ν v v'

theorem SimM.bytes {src dst e : TypeId} {x : Value} {s : ByteArray} {st : S} {w : World} {v : Value} {st' : S}
    (h : asBytes P src dst x = some (e, s)) (hR : R P ν st w) (hrun : dBytes P e s st = some (v, st')) (hF : Fresh ν st.n st'.n) :
    ∃ ν' v' w', (Go.convert src dst x).run P w = .ok v' w' ∧ R P ν' st' w' ∧ Fr ν st w ν' st' w' ∧ VRel ν' v v' := by
  unfold asBytes at h
  split at h
  case h_2 => simp at h
  rename_i e' s' hs hd
  split at h
  case h_2 => simp at h
  rename_i he
  simp only [Option.some.injEq, Prod.mk.injEq] at h
  obtain ⟨rfl, rfl⟩ := h
  unfold dBytes at hrun
  split at hrun
  case isTrue => exact (fail_some hrun).elim
  rename_i hc
  have hc1 : P.cellsOf e' = 1 := by simpa using hc
  obtain ⟨b, s2, k1, k2⟩ := M.bind_some hrun
  obtain ⟨rfl, rfl⟩ := pure_some k2
  let q : Question := .appendCap s'.size 0 e'
  let cap := q.cut (w.tape w.drawn q)
  have hcap : s'.size ≤ cap := by show s'.size ≤ s'.size + _; omega
  have hlen : (s'.data.toList.map fun (b : UInt8) => Value.int .u8 b.toNat).length = s'.size := by rw [List.length_map]; rfl
  have hn := newCells_up _ _ _ _ _ _ _ k1
  obtain ⟨ν', p1, p2, p3⟩ := Sim.cells (w := { w with drawn := w.drawn + 1 }) hR.drew hF k1 (VRell.ints s'.data.toList) (List.replicate (cap - s'.size) (Value.int .u8 0)) (cap, cap + 1) (cap - s'.size)
    (fun _ i h1 h2 h3 => by simp only [hlen, List.length_replicate] at h1; simp only at h2; omega) (fun h => by simp at h) (fun _ => by simp [hc1])
  refine ⟨ν', .slice (some ⟨w.heap.size, 0, none⟩) s'.size cap, _, ?_, p1, (Fr.drew st w).trans p2, ?_⟩
  · unfold Go.convert
    rw [run_und hs, run_und hd]
    simp only []
    rw [run_und he]
    simp only []
    unfold Conv.stringToBytes
    show (Sem.bind (choose q) _).run P w = _
    rw [run_bind]
    show (Sem.bind (newRow e' ((s'.data.map fun (b : UInt8) => Value.int .u8 b.toNat) ++ Array.replicate (cap - s'.size) (Value.int .u8 0))) _).run P { w with drawn := w.drawn + 1 } = _
    rw [run_bind]
    show (Sem.bind (markStringish ⟨w.heap.size, 0, none⟩) _).run P { w with drawn := w.drawn + 1, heap := w.heap.push (.cells ((s'.data.map fun (b : UInt8) => Value.int .u8 b.toNat) ++ Array.replicate (cap - s'.size) (Value.int .u8 0)) e' (0, 0)) } = _
    rw [run_bind]
    have hsz : ((s'.data.map fun (b : UInt8) => Value.int .u8 b.toNat) ++ Array.replicate (cap - s'.size) (Value.int .u8 0)).size = cap := by
      rw [Array.size_append, Array.size_map, Array.size_replicate]; have : s'.data.size = s'.size := rfl; omega
    have hmark : (markStringish ⟨w.heap.size, 0, none⟩).run P { w with drawn := w.drawn + 1, heap := w.heap.push (.cells ((s'.data.map fun (b : UInt8) => Value.int .u8 b.toNat) ++ Array.replicate (cap - s'.size) (Value.int .u8 0)) e' (0, 0)) } =
        .ok () { w with drawn := w.drawn + 1, heap := w.heap.push (.cells ((s'.data.toList.map fun (b : UInt8) => Value.int .u8 b.toNat) ++ List.replicate (cap - s'.size) (Value.int .u8 0)).toArray e' (cap, cap + 1)) } := by
      unfold markStringish
      show (Sem.bind (shape w.heap.size) _).run P _ = _
      rw [run_bind]
      show ((match (World.shape? { w with drawn := w.drawn + 1, heap := w.heap.push (.cells ((s'.data.map fun (b : UInt8) => Value.int .u8 b.toNat) ++ Array.replicate (cap - s'.size) (Value.int .u8 0)) e' (0, 0)) } w.heap.size) with | some (_, n) => freeze { block := w.heap.size, off := n } 1 | _ => Pure.pure () : Sem Unit)).run P _ = _
      have : World.shape? { w with drawn := w.drawn + 1, heap := w.heap.push (.cells ((s'.data.map fun (b : UInt8) => Value.int .u8 b.toNat) ++ Array.replicate (cap - s'.size) (Value.int .u8 0)) e' (0, 0)) } w.heap.size = some (e', cap) := by
        simp only [World.shape?, Array.getElem?_push_size, hsz]
      rw [this]
      simp only [freeze, Sem.run, World.freeze]
      rw [if_neg (by omega)]
      congr 2
      apply Array.ext
      · simp
      · intro j h1 h2
        rw [Array.getElem_modify]
        split
        · rename_i hj
          subst hj
          simp
        · rename_i hj
          simp only [Array.size_modify, Array.size_push] at h1
          rw [Array.getElem_push_lt (by omega), Array.getElem_push_lt (by omega)]
    rw [hmark]
    rfl
  · refine ⟨⟨w.heap.size, 0, none⟩, _, ⟨rfl, _, p3, rfl⟩, p3, ?_⟩
    rw [if_neg (by omega)]
    show Value.slice _ s'.size cap = Value.slice _ s'.size (OPEN + s'.size - OPEN + (cap - s'.size))
    rw [show OPEN + s'.size - OPEN + (cap - s'.size) = cap from by omega]

theorem Up.newCells (c : List Value) (e : TypeId) (m : BMode) (fz : Nat × Nat) : Up (Dee.newCells c e m fz) := Up.newB _
theorem Up.ite {α : Type} {c : Prop} [Decidable c] {x y : M α} (h : Up x) (k : Up y) : Up (if c then x else y) := by split <;> assumption
theorem dApp_up (elem : TypeId) (size : Nat) (x : Value) (sLen sCap : Nat) (b : Option Addr) : Up (dApp P elem size x sLen sCap b) := by
  cases b with
  | none =>
    refine Up.ite ?_ Up.fail
    refine Up.bind (Up.embV _) fun new => ?_
    exact Up.ite (Up.pure' _) (Up.bind (Up.newCells _ _ _ _) fun _ => Up.pure' _)
  | some a =>
    refine Up.ite Up.fail ?_
    refine Up.ite (Up.bind (Up.embV _) fun _ => Up.bind (Up.embV _) fun _ => Up.pure' _) ?_
    refine Up.ite (Up.bind (Up.embV _) fun _ => Up.bind (Up.embV _) fun _ => Up.bind (Up.newCells _ _ _ _) fun _ => Up.pure' _) ?_
    refine Up.bind (Up.embV _) fun _ => Up.bind (Up.embV _) fun _ => Up.bind (Up.rdK _ _) fun m => ?_
    split
    · exact Up.ite (Up.bind (Up.wrK _ _ _) fun _ => Up.bind (Up.newCells _ _ _ _) fun _ => Up.pure' _) Up.fail
    · exact Up.fail
theorem dAppend_up (ts : Array TypeId) (args : Array Value) : Up (dAppend P ts args) := by
  unfold dAppend
  split
  · split
    · split
      · exact Up.fail
      · refine Up.ite Up.fail (Up.ite Up.fail ?_)
        split
        · exact Up.fail
        · exact Up.ite (Up.ite (Up.ite (dApp_up _ _ _ _ _ _) Up.fail) Up.fail) Up.fail
    · exact Up.fail
  · exact Up.fail

theorem dOper_up (P : Program) (ρ : Operand → Value) (o : Oper) : Up (dOper P ρ o) := by
  unfold dOper
  refine Up.ite Up.fail ?_
  split
  · exact Up.bind (dAppend_up _ _) fun _ => Up.pure' _
  · split
    · refine Up.bind (Up.ite Up.fail (Up.bind (Up.newCells _ _ _ _) fun _ => Up.pure' _)) fun _ => Up.pure' _
    · refine Up.ite (Up.bind (Up.emb _) fun r => ?_) Up.fail
      split <;> exact Up.pure' _

theorem map_eval_rel (hg : GOk P ν) {a b : Act} (h : TRel ν a b) {l : Array Operand} (hl : ∀ x ∈ l, opndOk P x = true) : VRels ν (l.map a.eval) (l.map b.eval) := by
  have e : ∀ (c : Act), l.map c.eval = l.map (seenBy P c.eval) := fun c => Array.map_congr_left fun x hx => by unfold seenBy; rw [if_pos (hl x hx)]
  rw [e a, e b]
  exact map_rel' (seenBy_rel hg h) l

theorem dOper_sim (hz : ZeroOk P) (hzs : ZSize P) (hg : GOk P ν) {a b : Act} {o : Oper} {s s' : S} {w : World} {r : ON} (ht : TRel ν a b) (hR : R P ν s w)
    (hrun : dOper P a.eval o s = some (r, s')) (hF : Fresh ν s.n s'.n) : ∃ ν' w', ONRel ν' r ((Go.execOp b.eval o).run P w) w' ∧ R P ν' s' w' ∧ Fr ν s w ν' s' w' := by
  unfold dOper at hrun
  split at hrun
  case isTrue => exact (fail_some hrun).elim
  rename_i hall
  have hall : o.op.operands.all (opndOk P) = true := by simpa using hall
  have hopn : ∀ x ∈ o.op.operands, opndOk P x = true := by rw [Array.all_eq_true'] at hall; exact hall
  cases ha : isAppend o.op with
  | some ats =>
    obtain ⟨args, ts⟩ := ats
    simp only [ha] at hrun
    have ho : o.op = .call { callee := .builtin .append, args, argTypes := ts } := by
      unfold isAppend at ha
      split at ha
      · rename_i h; simp only [Option.some.injEq, Prod.mk.injEq] at ha; obtain ⟨rfl, rfl⟩ := ha; exact h
      · simp at ha
    obtain ⟨v, s1, k1, k2⟩ := M.bind_some hrun
    obtain ⟨rfl, rfl⟩ := pure_some k2
    have hargs := map_eval_rel hg ht (l := args) fun x hx => hopn x (by rw [ho]; simp [Op.operands, Call.operands, hx])
    obtain ⟨ν', v', w', r1, hR1, hF1, hv⟩ := SimM.append (T := o.type) hz hzs hargs ν (Nm.le_refl _) s w v s' hR k1 hF
    refine ⟨ν', w', ⟨.value v', ?_, v', rfl, hv⟩, hR1, hF1⟩
    obtain ⟨dst, op, type, pos, after, guard⟩ := o
    simp only at ho
    subst ho
    show (Sem.bind (Builtin.append_ ts type (args.map b.eval)) _).run P w = _
    rw [run_bind, r1]
    rfl
  | none =>
    simp only [ha] at hrun
    cases hb : toBytes P a.eval o.op with
    | some es =>
      obtain ⟨e, str⟩ := es
      simp only [hb] at hrun
      obtain ⟨v, s1, k1, k2⟩ := M.bind_some hrun
      obtain ⟨rfl, rfl⟩ := pure_some k2
      unfold toBytes at hb
      split at hb
      case h_2 => simp at hb
      rename_i src dst x ho
      have hx := eval_rel hg ht (hopn x (by rw [ho]; simp [Op.operands]))
      obtain ⟨ν', v', w', r1, hR1, hF1, hv⟩ := SimM.bytes hb hR k1 hF
      have hxb : b.eval x = a.eval x := by
        unfold asBytes at hb
        split at hb
        case h_2 => simp at hb
        rename_i hs; rw [hs] at hx; simp only [VRel] at hx; rw [hx, hs]
      refine ⟨ν', w', ⟨.value v', ?_, v', rfl, hv⟩, hR1, hF1⟩
      obtain ⟨dst', op', type, pos, after, guard⟩ := o
      simp only at ho
      subst ho
      show (Sem.bind (Go.convert src dst (b.eval x)) _).run P w = _
      rw [run_bind, hxb, r1]
      rfl
    | none =>
      simp only [hb] at hrun
      split at hrun
      case isFalse => exact (fail_some hrun).elim
      rename_i hcap
      obtain ⟨x, s1, k1, k2⟩ := M.bind_some hrun
      have hsel : ∀ cs b, o.op ≠ .select cs b := by
        intro cs b e
        simp [capOk, e] at hcap
      rw [execOp_congr o hsel (seenBy_eq hall a.eval)] at k1
      rw [execOp_congr o hsel (seenBy_eq hall b.eval)]
      have hs1 : s1 = s' := by
        split at k2 <;> exact (pure_some k2).2.symm
      subst hs1
      have key := Sim.execOp hg hz (seenBy_rel hg ht) o hcap ν (Nm.le_refl _) s w x s1 hR k1 hF
      split at k2
      · obtain ⟨rfl, _⟩ := pure_some k2
        obtain ⟨ν', v', w', e, h1, h2, h3⟩ := key
        exact ⟨ν', w', ⟨v', e, h3⟩, h1, h2⟩
      · obtain ⟨rfl, _⟩ := pure_some k2
        obtain ⟨ν', v', w', e, h1, h2, h3⟩ := key
        exact ⟨ν', w', ⟨v', e, h3⟩, h1, h2⟩
      · obtain ⟨rfl, _⟩ := pure_some k2
        obtain ⟨ν', v', w', e, h1, h2, h3⟩ := key
        exact ⟨ν', w', ⟨v', e, h3⟩, h1, h2⟩
end
end Go.Dee
