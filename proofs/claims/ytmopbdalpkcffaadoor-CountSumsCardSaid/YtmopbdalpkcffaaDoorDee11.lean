/- Dee, part 11: regions whose order is open: whatever the order, the same comes of it. -/
import Derived.Test.YtmopbdalpkcffaaDoorDee10
namespace Go.Dee
open Go

/-! The plain part: steps that look at keys and write keys; those that meet are ordered. -/
section plain
variable {K V : Type} {n : Nat} {x : Nat → K → V} {W : Nat → K → Prop} {D : Nat → Prop} {y : K → V}

def Valid (n : Nat) (x : Nat → K → V) (W : Nat → K → Prop) (D : Nat → Prop) (y : K → V) : Prop := ∀ key,
  (∃ i, i < n ∧ D i ∧ W i key ∧ (∀ i', i' < n → D i' → W i' key → i' ≤ i) ∧ y key = x (i + 1) key) ∨
  ((∀ i, i < n → D i → ¬ W i key) ∧ y key = x 0 key)

theorem steady (hf : ∀ i, i < n → ∀ key, ¬ W i key → x (i + 1) key = x i key) (key : K) (a : Nat) :
    ∀ d, a + d ≤ n → (∀ i, a ≤ i → i < a + d → ¬ W i key) → x (a + d) key = x a key := by
  intro d
  induction d with
  | zero => intro _ _; rfl
  | succ d ih =>
    intro h k
    show x (a + d + 1) key = x a key
    rw [hf (a + d) (by omega) key (k _ (by omega) (by omega)), ih (by omega) fun i p q => k i p (by omega)]

theorem Valid.init : Valid n x W (fun _ => False) (x 0) := fun _ => .inr ⟨fun _ _ h => h.elim, rfl⟩

theorem Valid.look (hf : ∀ i, i < n → ∀ key, ¬ W i key → x (i + 1) key = x i key) (h : Valid n x W D y) {j : Nat} (hj : j < n) (hD : ¬ D j) {key : K}
    (hlt : ∀ i, i < j → W i key → D i) (hgt : ∀ i, i < n → j < i → W i key → ¬ D i) : y key = x j key := by
  rcases h key with ⟨i, h1, h2, h3, h4, h5⟩ | ⟨h1, h2⟩
  · have hij : i < j := by
      rcases Nat.lt_trichotomy i j with q | q | q
      · exact q
      · exact absurd (q ▸ h2) hD
      · exact absurd h2 (hgt i h1 q h3)
    rw [h5]
    have := steady hf key (i + 1) (j - (i + 1)) (by omega) fun m p q hw => by
      have := h4 m (by omega) (hlt m (by omega) hw) hw
      omega
    rw [show i + 1 + (j - (i + 1)) = j from by omega] at this
    exact this.symm
  · rw [h2]
    have := steady hf key 0 j (by omega) fun m p q hw => h1 m (by omega) (hlt m (by omega) hw) hw
    rw [Nat.zero_add] at this
    exact this.symm

theorem Valid.step (h : Valid n x W D y) {j : Nat} (hj : j < n) {y' : K → V} (hy : ∀ key, W j key → y' key = x (j + 1) key) (hn : ∀ key, ¬ W j key → y' key = y key)
    (hgt : ∀ i key, i < n → j < i → W i key → W j key → ¬ D i) : Valid n x W (fun i => D i ∨ i = j) y' := by
  intro key
  by_cases hw : W j key
  · refine .inl ⟨j, hj, .inr rfl, hw, fun i' p q r => ?_, hy key hw⟩
    rcases q with q | q
    · rcases Nat.lt_or_ge j i' with l | l
      · exact absurd q (hgt i' key p l r hw)
      · exact l
    · omega
  · rw [hn key hw]
    rcases h key with ⟨i, h1, h2, h3, h4, h5⟩ | ⟨h1, h2⟩
    · refine .inl ⟨i, h1, .inl h2, h3, fun i' p q r => ?_, h5⟩
      rcases q with q | q
      · exact h4 i' p q r
      · exact absurd (q ▸ r) hw
    · refine .inr ⟨fun i p q r => ?_, h2⟩
      rcases q with q | q
      · exact h1 i p q r
      · exact absurd (q ▸ r) hw

theorem Valid.all (hf : ∀ i, i < n → ∀ key, ¬ W i key → x (i + 1) key = x i key) (h : Valid n x W D y) (hD : ∀ i, i < n → D i) (key : K) : y key = x n key := by
  rcases h key with ⟨i, h1, h2, h3, h4, h5⟩ | ⟨h1, h2⟩
  · rw [h5]
    have := steady hf key (i + 1) (n - (i + 1)) (by omega) fun m p q hw => by
      have := h4 m (by omega) (hD m (by omega)) hw
      omega
    rw [show i + 1 + (n - (i + 1)) = n from by omega] at this
    exact this.symm
  · rw [h2]
    have := steady hf key 0 n (by omega) fun m p q hw => h1 m (by omega) (hD m (by omega)) hw
    rw [Nat.zero_add] at this
    exact this.symm
theorem Valid.congr {D' : Nat → Prop} (h : Valid n x W D y) (e : ∀ i, i < n → (D i ↔ D' i)) : Valid n x W D' y := by
  intro key
  rcases h key with ⟨i, h1, h2, h3, h4, h5⟩ | ⟨h1, h2⟩
  · exact .inl ⟨i, h1, (e i h1).1 h2, h3, fun i' p q r => h4 i' p ((e i' p).2 q) r, h5⟩
  · exact .inr ⟨fun i p q => h1 i p ((e i p).2 q), h2⟩
end plain

/-! What the checks say. -/
section checks
variable {m : Region.Mode}

theorem once_mem {i : Nat} : ∀ (l acc : List Nat), i ∈ once l acc → i ∈ l ∨ i ∈ acc
  | [], acc, h => .inr h
  | x :: l, acc, h => by
    simp only [once] at h
    rcases once_mem l _ h with h | h
    · exact .inl (List.mem_cons_of_mem _ h)
    · split at h
      · exact .inr h
      · rcases List.mem_cons.1 h with rfl | h
        · exact .inl (by simp)
        · exact .inr h
theorem aheadOf_spec (ops : List Oper) (D : Nat → Prop) (base : List Oper) (acc : List (List Nat)) (hl : acc.length = base.length)
    (hacc : ∀ j o, base[j]? = some o → (∀ e ∈ onOf m o, D e) → ∀ i ∈ acc.getD j [], D i)
    (hcl : ∀ j o, (base ++ ops)[j]? = some o → D j → ∀ e ∈ onOf m o, D e) :
    ∀ j o, (base ++ ops)[j]? = some o → (∀ e ∈ onOf m o, D e) → ∀ i ∈ (aheadOf m ops acc).getD j [], D i := by
  induction ops generalizing base acc with
  | nil => simpa [aheadOf] using hacc
  | cons o os ih =>
    intro j o' ho he
    simp only [aheadOf]
    refine ih (base ++ [o]) _ (by simp [hl]) (fun j o' ho he i hi => ?_) (by simpa using hcl) j o' (by simpa using ho) he
    rw [List.getD_eq_getElem?_getD] at hi
    rcases Nat.lt_or_ge j base.length with q | q
    · rw [List.getElem?_append_left (by omega), ← List.getD_eq_getElem?_getD] at hi
      rw [List.getElem?_append_left q] at ho
      exact hacc j o' ho he i hi
    · have hj : j = base.length := by
        rcases Nat.lt_or_ge base.length j with r | r
        · rw [List.getElem?_eq_none (by simp; omega)] at ho; simp at ho
        · omega
      subst hj
      rw [← hl, List.getElem?_append_right (Nat.le_refl _)] at hi
      rw [List.getElem?_append_right (Nat.le_refl _)] at ho
      simp only [Nat.sub_self, List.getElem?_cons_zero, Option.getD_some, Option.some.injEq] at hi ho
      subst ho
      have hi := (once_mem _ _ hi).resolve_right (by simp)
      obtain ⟨e, he1, he2⟩ := List.mem_flatMap.1 hi
      obtain ⟨he3, he4⟩ := List.mem_filter.1 he1
      have hDe := he e he3
      rcases List.mem_cons.1 he2 with q1 | q1
      · exact q1 ▸ hDe
      · simp only [decide_eq_true_eq, hl] at he4
        have hb : base[e]? = some base[e] := List.getElem?_eq_getElem he4
        exact hacc e _ hb (fun e' h' => hcl e _ (by rw [List.getElem?_append_left he4]; exact hb) hDe e' h') i q1

theorem apartFrom_spec {ah : List Nat} {x : Row} : ∀ (ys : List Row) (j : Nat), apartFrom ah x j ys = true → ∀ i y, ys[i]? = some y → (j + i) ∈ ah ∨ clash x y = false := by
  intro ys
  induction ys with
  | nil => intro j _ i y h; simp at h
  | cons z zs ih =>
    intro j h i y hy
    simp only [apartFrom, Bool.and_eq_true, Bool.or_eq_true, Bool.not_eq_true', List.contains_iff_mem] at h
    cases i with
    | zero => simp at hy; subst hy; exact h.1
    | succ i =>
      have := ih (j + 1) h.2 i y (by simpa using hy)
      rw [show j + 1 + i = j + (i + 1) from by omega] at this
      exact this

theorem allApart_spec {ah : List (List Nat)} : ∀ (rows done : List Row), allApart ah done rows = true →
    ∀ i j x y, (done ++ rows)[i]? = some y → (done ++ rows)[j]? = some x → i < j → done.length ≤ j → i ∈ ah.getD j [] ∨ clash x y = false := by
  intro rows
  induction rows with
  | nil =>
    intro done _ i j x y _ hj _ hl
    rw [List.append_nil, List.getElem?_eq_none hl] at hj
    simp at hj
  | cons z zs ih =>
    intro done h i j x y hi hj hij hl
    simp only [allApart, Bool.and_eq_true] at h
    rcases Nat.lt_or_ge done.length j with q | q
    · exact ih (done ++ [z]) h.2 i j x y (by simpa using hi) (by simpa using hj) hij (by simp; omega)
    · have hj' : j = done.length := by omega
      subst hj'
      rw [List.getElem?_append_right (Nat.le_refl _)] at hj
      simp at hj
      subst hj
      rw [List.getElem?_append_left hij] at hi
      have := apartFrom_spec done 0 h.1 i y hi
      rw [Nat.zero_add] at this
      exact this

theorem onOf_mem {o : Oper} {e : Edge} (h : e ∈ o.after) (hb : Region.binds m e = true) : e.on ∈ onOf m o :=
  List.mem_map.2 ⟨e, List.mem_filter.2 ⟨by simpa using h, hb⟩, rfl⟩
theorem onOf_spec {o : Oper} {i : Nat} (h : i ∈ onOf m o) : ∃ e ∈ o.after, Region.binds m e = true ∧ e.on = i := by
  obtain ⟨e, he, rfl⟩ := List.mem_map.1 h
  obtain ⟨h1, h2⟩ := List.mem_filter.1 he
  exact ⟨e, by simpa using h1, h2, rfl⟩

theorem edgesOk_spec : ∀ (ops : List Oper) (k : Nat), edgesOk m ops k = true → ∀ i o, ops[i]? = some o → ∀ e ∈ onOf m o, e < k + i := by
  intro ops
  induction ops with
  | nil => intro k _ i o h; simp at h
  | cons z zs ih =>
    intro k h i o ho e he
    simp only [edgesOk, Bool.and_eq_true, List.all_eq_true, decide_eq_true_eq] at h
    cases i with
    | zero => simp at ho; subst ho; simpa using h.1 e he
    | succ i =>
      have := ih (k + 1) h.2 i o (by simpa using ho) e he
      omega

/-- Someone is ready. -/
theorem topo_spec {ops : Array Oper} {listed : Array Bool} (hsz : listed.size = ops.size) : ∀ (l done : List Nat), topo m ops l done = true →
    (∀ i ∈ done, i < ops.size ∧ listed.getD i true = true) → (∃ i, i < ops.size ∧ listed.getD i true = false) → Region.ready m ops listed ≠ [] := by
  intro l
  induction l with
  | nil =>
    rintro done h hd ⟨i, hi, hn⟩
    simp only [topo, List.all_eq_true, List.mem_range, List.contains_iff_mem] at h
    rw [(hd i (h i hi)).2] at hn
    simp at hn
  | cons a as ih =>
    rintro done h hd hex
    simp only [topo, Bool.and_eq_true] at h
    cases ho : ops[a]? with
    | none => simp [ho] at h
    | some o =>
    have ha := (Array.getElem?_eq_some_iff.1 ho).1
    by_cases hl : listed.getD a true = true
    · exact ih (a :: done) h.2 (fun i hi => by
        rcases List.mem_cons.1 hi with q | q
        · exact q ▸ ⟨ha, hl⟩
        · exact hd i q) hex
    · have hl' : listed.getD a true = false := by simpa using hl
      intro hnil
      have hmem : a ∈ Region.ready m ops listed := by
        rw [mem_ready]
        refine ⟨hl', o, ho, fun e he hb => ?_⟩
        simp only [ho, List.all_eq_true, List.contains_iff_mem] at h
        obtain ⟨h1, h2⟩ := hd _ (h.1 _ (onOf_mem he hb))
        rw [Array.getD_eq_getD_getElem?, Array.getElem?_eq_getElem (by omega)] at h2 ⊢
        simpa using h2
      rw [hnil] at hmem
      simp at hmem

theorem ready_some {ops : Array Oper} {listed : Array Bool} (hsz : listed.size = ops.size) (h : ordOk m ops = true) (hex : ∃ i, i < ops.size ∧ listed.getD i true = false) :
    Region.ready m ops listed ≠ [] := by
  unfold ordOk at h
  rw [Bool.or_eq_true] at h
  rcases h with h | h
  · obtain ⟨i, hi, hn⟩ := hex
    have key : ∀ k i, i < k → i < ops.size → listed.getD i true = false → Region.ready m ops listed ≠ [] := by
      intro k
      induction k with
      | zero => intro i h; omega
      | succ k ih =>
        intro i hik hi hn
        by_cases hall : ∀ e ∈ onOf m ops[i], listed.getD e true = true
        · intro hnil
          have hmem : i ∈ Region.ready m ops listed := by
            rw [mem_ready]
            refine ⟨hn, ops[i], Array.getElem?_eq_getElem hi, fun e he hb => ?_⟩
            have h1 := edgesOk_spec ops.toList 0 h i ops[i] (by simp [hi]) _ (onOf_mem he hb)
            have h2 := hall _ (onOf_mem he hb)
            rw [Array.getD_eq_getD_getElem?, Array.getElem?_eq_getElem (by omega)] at h2 ⊢
            simpa using h2
          rw [hnil] at hmem
          simp at hmem
        · have : ∃ e, e ∈ onOf m ops[i] ∧ ¬ listed.getD e true = true := by
            refine Classical.byContradiction fun q => hall fun e he => Classical.byContradiction fun r => q ⟨e, he, r⟩
          obtain ⟨e, he, hne⟩ := this
          have h1 := edgesOk_spec ops.toList 0 h i ops[i] (by simp [hi]) _ he
          exact ih e (by omega) (by omega) (by simpa using hne)
    exact key (i + 1) i (by omega) hi hn
  · exact topo_spec hsz _ _ h (fun i hi => by simp at hi) hex
end checks

/-! What an operation looks at. -/
theorem capOk_congr {P : Program} {ρ ρ' : Operand → Value} (o : Oper) (h : ∀ x ∈ o.op.operands, ρ x = ρ' x) : capOk P ρ o = capOk P ρ' o := by
  obtain ⟨dst, op, type, pos, after, guard⟩ := o
  cases op <;> simp only [Op.operands] at h <;> simp only [capOk]
  case slice t x lo hi mx => cases lo <;> cases hi <;> cases mx <;> simp_all
  case call c =>
    obtain ⟨callee, args, ts⟩ := c
    have ha : ∀ x ∈ args, ρ x = ρ' x := fun x hx => h x (by simp [Call.operands, hx])
    have hall : ∀ (p : Value → Bool), (args.all fun x => p (ρ x)) = args.all fun x => p (ρ' x) := fun p => by
      rw [Bool.eq_iff_iff, Array.all_eq_true_iff_forall_mem, Array.all_eq_true_iff_forall_mem]
      exact ⟨fun q x hx => ha x hx ▸ q x hx, fun q x hx => (ha x hx).symm ▸ q x hx⟩
    cases callee with
    | value f => rfl
    | invoke r m => rfl
    | builtin b =>
      cases b <;> simp only []
      case max => exact hall fun v => tag v == 1 || tag v == 4
      case min => exact hall fun v => tag v == 1 || tag v == 4
      case delete =>
        cases hx : args[1]? with
        | none => rfl
        | some x => simp only []; rw [ha x (Array.mem_of_getElem? hx)]
      case cap => exact hall fun v => match v with | .slice _ _ c => decide (c < OPEN) | _ => true
  all_goals (first | rfl | (simp_all; done))

theorem dOper_congr {P : Program} {ρ ρ' : Operand → Value} (o : Oper) (h : ∀ x ∈ o.op.operands, ρ x = ρ' x) : dOper P ρ o = dOper P ρ' o := by
  unfold dOper
  split
  · rfl
  · have h1 : ∀ a ts, isAppend o.op = some (a, ts) → a.map ρ = a.map ρ' := by
      intro a ts ha
      unfold isAppend at ha
      split at ha
      · rename_i hop
        simp only [Option.some.injEq, Prod.mk.injEq] at ha
        obtain ⟨rfl, rfl⟩ := ha
        exact Array.map_congr_left fun x hx => h x (by rw [hop]; simp [Op.operands, Call.operands, hx])
      · simp at ha
    have h2 : toBytes P ρ o.op = toBytes P ρ' o.op := by
      cases ho : o.op <;> try rfl
      rename_i src dst x
      simp only [toBytes]
      rw [h x (by rw [ho]; simp [Op.operands])]
    have h3 : capOk P (seenBy P ρ) o = capOk P (seenBy P ρ') o := capOk_congr o fun x hx => by unfold seenBy; rw [h x hx]
    cases ha : isAppend o.op with
    | some r =>
      obtain ⟨a, ts⟩ := r
      simp only []
      rw [h1 a ts ha]
    | none =>
      simp only []
      rw [h2]
      cases toBytes P ρ' o.op with
      | some es => rfl
      | none =>
        simp only []
        rw [h3]
        split
        · rename_i hc
          have hsel : ∀ cs b, o.op ≠ .select cs b := by
            intro cs b e
            simp [capOk, e] at hc
          rw [execOp_congr o hsel h]
        · rfl
theorem dOp_congr {off : Bool} {P : Program} {ρ ρ' : Operand → Value} (o : Oper) (h : ∀ x ∈ o.op.operands, ρ x = ρ' x) : dOp off P ρ o = dOp off P ρ' o := by
  have hc : catOf ρ o.op = catOf ρ' o.op := by
    cases ho : o.op <;> try rfl
    rename_i op t x y p
    cases op <;> try rfl
    simp only [catOf]
    rw [h x (by rw [ho]; simp [Op.operands]), h y (by rw [ho]; simp [Op.operands])]
  have hr : rowIx ρ o.op = rowIx ρ' o.op := by
    cases ho : o.op <;> try rfl
    rename_i t x i
    simp only [rowIx]
    rw [h x (by rw [ho]; simp [Op.operands]), h i (by rw [ho]; simp [Op.operands])]
  have hm : cmpOf ρ o.op = cmpOf ρ' o.op := by
    cases ho : o.op <;> try rfl
    rename_i op t x y p
    simp only [cmpOf]
    rw [h x (by rw [ho]; simp [Op.operands]), h y (by rw [ho]; simp [Op.operands])]
  have hk : capOk P (seenBy P ρ) o = capOk P (seenBy P ρ') o := capOk_congr o fun x hx => by unfold seenBy; rw [h x hx]
  unfold dOp
  rw [hc, hr, hm, hk, dOper_congr o h]
end Go.Dee
