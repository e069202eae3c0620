/- The steps of the given machine, each by itself; the orders of a region. Without conditions. -/
import Derived.Orders
import Derived.RangeFuncRecord
import Derived.RangeFuncNested

namespace Go.AM

def unl (ops : Array Oper) (listed : Array Bool) : List Nat := (List.range ops.size).filter fun i => !listed.getD i true
theorem mem_unl {ops : Array Oper} {listed : Array Bool} {x : Nat} : x ∈ unl ops listed ↔ x < ops.size ∧ listed.getD x true = false := by
  simp [unl]

theorem getD_set {listed : Array Bool} {i x : Nat} {b d : Bool} (hi : i < listed.size) : (listed.setIfInBounds i b).getD x d = if x = i then b else listed.getD x d := by
  simp only [Array.getD_eq_getD_getElem?, Array.getElem?_setIfInBounds]
  by_cases h : i = x
  · subst h; simp [hi]
  · rw [if_neg h, if_neg (fun e => h e.symm)]

theorem unl_set {ops : Array Oper} {listed : Array Bool} {i : Nat} (hs : listed.size = ops.size) (hi : i ∈ unl ops listed) : (unl ops (listed.setIfInBounds i true)).length + 1 ≤ (unl ops listed).length := by
  have hi' := mem_unl.1 hi
  have hsub : (unl ops (listed.setIfInBounds i true)) = (unl ops listed).filter (fun x => x != i) := by
    unfold unl
    rw [List.filter_filter]
    apply List.filter_congr
    intro x hx
    rw [getD_set (by omega)]
    by_cases e : x = i
    · simp [e]
    · simp [e]
  rw [hsub]
  have : ∀ (l : List Nat), i ∈ l → (l.filter (fun x => x != i)).length + 1 ≤ l.length := by
    intro l
    induction l with
    | nil => intro h; simp at h
    | cons a l ih =>
      intro h
      rw [List.filter_cons]
      by_cases e : a = i
      · have hle := List.length_filter_le (fun x => x != i) l
        have : (a != i) = false := by simp [e]
        rw [this]
        simp
        exact hle
      · have : (a != i) = true := by simp [e]
        rw [this]
        have hm : i ∈ l := by
          rcases List.mem_cons.1 h with h' | h'
          · exact absurd h'.symm e
          · exact h'
        have := ih hm
        simp only [if_true, List.length_cons]
        omega
  exact this _ hi

/-- every edge that binds points backward -/
def Backward (md : Region.Mode) (ops : Array Oper) : Prop := ∀ i o, ops[i]? = some o → ∀ e ∈ o.after, Region.binds md e = true → e.on < i

theorem ready_ne {md : Region.Mode} {ops : Array Oper} (hb : Backward md ops) {listed : Array Bool} (hs : listed.size = ops.size) (h : unl ops listed ≠ []) : Region.ready md ops listed ≠ [] := by
  -- the least that is not listed
  have hex : ∃ x, x ∈ unl ops listed := by
    cases hu : unl ops listed with
    | nil => exact absurd hu h
    | cons a l => exact ⟨a, by simp⟩
  have hmin : ∀ n, (∃ x, x ≤ n ∧ x ∈ unl ops listed) → ∃ x, x ∈ unl ops listed ∧ ∀ y, y < x → y ∉ unl ops listed := by
    intro n
    induction n with
    | zero =>
      rintro ⟨x, hx, hm⟩
      exact ⟨x, hm, fun y hy => by omega⟩
    | succ n ih =>
      rintro ⟨x, hx, hm⟩
      by_cases hq : ∃ x, x ≤ n ∧ x ∈ unl ops listed
      · exact ih hq
      · exact ⟨x, hm, fun y hy hy' => hq ⟨y, by omega, hy'⟩⟩
  obtain ⟨x0, hx0⟩ := hex
  obtain ⟨x, hx, hl⟩ := hmin x0 ⟨x0, Nat.le_refl _, hx0⟩
  have hx' := mem_unl.1 hx
  intro he
  have : x ∈ Region.ready md ops listed := by
    unfold Region.ready
    rw [List.mem_filter]
    refine ⟨by simp [hx'.1], ?_⟩
    have ho : ops[x]? = some ops[x] := Array.getElem?_eq_getElem hx'.1
    rw [hx'.2, ho]
    simp only [Bool.not_false, Option.map_some, Option.getD_some, Bool.true_and]
    rw [Array.all_eq_true_iff_forall_mem]
    intro e hem
    cases hbd : Region.binds md e with
    | false => rfl
    | true =>
      have hlt := hb x _ ho e hem hbd
      have h1 := hl _ hlt
      have h2 : ¬ (listed.getD e.on true = false) := fun h3 => h1 (mem_unl.2 ⟨by omega, h3⟩)
      have hsz : e.on < listed.size := by omega
      simp [Array.getD, hsz] at h2 ⊢
      exact h2
  rw [he] at this
  simp at this

theorem go_spec {md : Region.Mode} {ops : Array Oper} (hb : Backward md ops) : ∀ (fuel t : Nat) (listed : Array Bool), listed.size = ops.size → (unl ops listed).length ≤ fuel →
    (∀ x ∈ Region.linearise.go md ops fuel t listed [], x ∈ unl ops listed) ∧ (Region.linearise.go md ops fuel t listed []).Nodup ∧ (∀ x ∈ unl ops listed, x ∈ Region.linearise.go md ops fuel t listed []) ∧
    ∀ l1 x l2, Region.linearise.go md ops fuel t listed [] = l1 ++ x :: l2 → ∀ o, ops[x]? = some o → ∀ e ∈ o.after, Region.binds md e = true → listed.getD e.on false = true ∨ e.on ∈ l1 := by
  intro fuel
  induction fuel with
  | zero =>
    intro t listed hs hf
    have h0 : unl ops listed = [] := List.length_eq_zero_iff.1 (by omega)
    simp only [Region.linearise.go, List.reverse_nil]
    refine ⟨by simp, by simp, by rw [h0]; simp, fun l1 x l2 h => ?_⟩
    cases l1 <;> simp at h
  | succ fuel ih =>
    intro t listed hs hf
    simp only [Region.linearise.go]
    change (∀ x ∈ (match (Region.ready md ops listed)[t % (Region.ready md ops listed).length]? with
      | some i => Region.linearise.go md ops fuel (t / (Region.ready md ops listed).length) (listed.setIfInBounds i true) [i]
      | none => [].reverse), x ∈ unl ops listed) ∧ (match (Region.ready md ops listed)[t % (Region.ready md ops listed).length]? with
      | some i => Region.linearise.go md ops fuel (t / (Region.ready md ops listed).length) (listed.setIfInBounds i true) [i]
      | none => [].reverse).Nodup ∧ (∀ x ∈ unl ops listed, x ∈ (match (Region.ready md ops listed)[t % (Region.ready md ops listed).length]? with
      | some i => Region.linearise.go md ops fuel (t / (Region.ready md ops listed).length) (listed.setIfInBounds i true) [i]
      | none => [].reverse)) ∧ ∀ l1 x l2, (match (Region.ready md ops listed)[t % (Region.ready md ops listed).length]? with
      | some i => Region.linearise.go md ops fuel (t / (Region.ready md ops listed).length) (listed.setIfInBounds i true) [i]
      | none => [].reverse) = l1 ++ x :: l2 → ∀ o, ops[x]? = some o → ∀ e ∈ o.after, Region.binds md e = true → listed.getD e.on false = true ∨ e.on ∈ l1
    cases hi : (Region.ready md ops listed)[t % (Region.ready md ops listed).length]? with
    | none =>
      have hnil : Region.ready md ops listed = [] := by
        cases hr : Region.ready md ops listed with
        | nil => rfl
        | cons x xs =>
          rw [hr] at hi
          have hlt : t % (x :: xs).length < (x :: xs).length := Nat.mod_lt _ (by simp)
          simp at hi
          simp at hlt
          omega
      have h0 : unl ops listed = [] := Classical.byContradiction fun hne => ready_ne hb hs hne hnil
      simp only [List.reverse_nil]
      refine ⟨by simp, by simp, by rw [h0]; simp, fun l1 x l2 h => ?_⟩
      cases l1 <;> simp at h
    | some i =>
      simp only []
      rw [linearise_go_acc, List.reverse_singleton, List.singleton_append]
      have hmem := List.mem_of_getElem? hi
      unfold Region.ready at hmem
      rw [List.mem_filter] at hmem
      have hlt : i < ops.size := by simpa using hmem.1
      have hc := (Bool.and_eq_true _ _).mp hmem.2
      have hun : i ∈ unl ops listed := mem_unl.2 ⟨hlt, by simpa using hc.1⟩
      have hedges : ∀ o, ops[i]? = some o → ∀ e ∈ o.after, Region.binds md e = true → listed.getD e.on false = true := by
        intro o ho e he hbd
        have h2 := hc.2
        rw [ho] at h2
        simp only [Option.map_some, Option.getD_some] at h2
        rw [Array.all_eq_true_iff_forall_mem] at h2
        have := h2 e he
        rw [hbd] at this
        simpa using this
      have hs' : (listed.setIfInBounds i true).size = ops.size := by simpa using hs
      have hlen := unl_set hs hun
      obtain ⟨a, b, c, d⟩ := ih (t / (Region.ready md ops listed).length) (listed.setIfInBounds i true) hs' (by omega)
      have hsub : ∀ x, x ∈ unl ops (listed.setIfInBounds i true) ↔ x ∈ unl ops listed ∧ x ≠ i := by
        intro x
        rw [mem_unl, mem_unl, getD_set (by omega)]
        by_cases e : x = i
        · simp [e]
        · simp [e]
      generalize Region.linearise.go md ops fuel (t / (Region.ready md ops listed).length) (listed.setIfInBounds i true) [] = l at a b c d
      refine ⟨?_, ?_, ?_, ?_⟩
      · intro x hx
        rcases List.mem_cons.1 hx with rfl | hx
        · exact hun
        · exact ((hsub x).1 (a x hx)).1
      · exact List.nodup_cons.2 ⟨fun hx => ((hsub i).1 (a i hx)).2 rfl, b⟩
      · intro x hx
        by_cases e : x = i
        · rw [e]; simp
        · exact List.mem_cons_of_mem _ (c x ((hsub x).2 ⟨hx, e⟩))
      · intro l1 x l2 h o ho e he hbd
        cases l1 with
        | nil =>
          simp at h
          obtain ⟨rfl, rfl⟩ := h
          exact .inl (hedges o ho e he hbd)
        | cons y l1 =>
          simp at h
          obtain ⟨rfl, rfl⟩ := h
          rcases d l1 x l2 rfl o ho e he hbd with h1 | h1
          · rw [getD_set (by omega)] at h1
            by_cases e1 : e.on = i
            · exact .inr (by simp [e1])
            · rw [if_neg e1] at h1
              exact .inl h1
          · exact .inr (List.mem_cons_of_mem _ h1)

/-- nothing that must come first stands behind -/
def Sched (bf : List Nat) (l : List Nat) : Prop := ∀ l1 x l2, l = l1 ++ x :: l2 → ∀ b, bf[x]? = some b → ∀ i, b.testBit i = true → i ∉ x :: l2
theorem Sched.tail {bf : List Nat} {y : Nat} {l : List Nat} (h : Sched bf (y :: l)) : Sched bf l :=
  fun l1 x l2 e => h (y :: l1) x l2 (by rw [e]; rfl)

/-- the operations of which one of the edges tells, step by step -/
def BInv (pre : List Oper) (acc : Array Nat) : Prop := acc.size = pre.length ∧ ∀ (x b : Nat), acc[x]? = some b → ∀ i, b.testBit i = true →
    ∃ o, pre[x]? = some o ∧ ∃ e ∈ o.after, Region.binds .any e = true ∧ (i = e.on ∨ (acc.getD e.on 0).testBit i = true)
theorem fold_bits (acc : Array Nat) (i : Nat) : ∀ (l : List Edge) (s : Nat), (l.foldl (fun s e => if Region.binds .any e then s ||| 2 ^ e.on ||| acc.getD e.on 0 else s) s).testBit i = true →
    s.testBit i = true ∨ ∃ e ∈ l, Region.binds .any e = true ∧ (i = e.on ∨ (acc.getD e.on 0).testBit i = true)
  | [], s, h => .inl h
  | e :: l, s, h => by
    rw [List.foldl_cons] at h
    rcases fold_bits acc i l _ h with h1 | ⟨e', h1, h2⟩
    · by_cases hb : Region.binds .any e = true
      · rw [if_pos hb, Nat.testBit_or, Nat.testBit_or, Nat.testBit_two_pow] at h1
        simp only [Bool.or_eq_true, decide_eq_true_eq] at h1
        rcases h1 with (h1 | h1) | h1
        · exact .inl h1
        · exact .inr ⟨e, by simp, hb, .inl h1.symm⟩
        · exact .inr ⟨e, by simp, hb, .inr h1⟩
      · rw [if_neg hb] at h1
        exact .inl h1
    · exact .inr ⟨e', by simp [h1], h2⟩
theorem BInv.step {pre : List Oper} {acc : Array Nat} (h : BInv pre acc) (o : Oper) :
    BInv (pre ++ [o]) (acc.push (o.after.foldl (fun s e => if Region.binds .any e then s ||| 2 ^ e.on ||| acc.getD e.on 0 else s) 0)) := by
  refine ⟨by simp [h.1], fun x b hx i hi => ?_⟩
  have hget : ∀ (v j : Nat), (acc.getD j 0).testBit i = true → ((acc.push v).getD j 0).testBit i = true := by
    intro v j hj
    rcases Nat.lt_or_ge j acc.size with q | q
    · simp only [Array.getD_eq_getD_getElem?, Array.getElem?_push] at hj ⊢
      rw [if_neg (by omega)]
      exact hj
    · simp [Array.getD, Nat.not_lt.2 q] at hj
  rw [Array.getElem?_push] at hx
  split at hx
  · rename_i e
    subst e
    cases hx
    refine ⟨o, by rw [h.1]; simp, ?_⟩
    rw [← Array.foldl_toList] at hi
    rcases fold_bits acc i _ _ hi with h1 | ⟨e, h1, h2, h3⟩
    · simp at h1
    · exact ⟨e, by simpa using h1, h2, h3.imp id (hget _ _)⟩
  · obtain ⟨o', h1, e, h2, h3, h4⟩ := h.2 x b hx i hi
    refine ⟨o', ?_, e, h2, h3, h4.imp id (hget _ _)⟩
    have hlt : x < acc.size := by
      rcases Nat.lt_or_ge x acc.size with q | q
      · exact q
      · rw [Array.getElem?_eq_none q] at hx; cases hx
    rw [List.getElem?_append_left (by rw [← h.1]; exact hlt)]
    exact h1
theorem BInv.steps : ∀ (suf : List Oper) (pre : List Oper) (acc : Array Nat), BInv pre acc →
    BInv (pre ++ suf) (suf.foldl (fun acc o => acc.push (o.after.foldl (fun s e => if Region.binds .any e then s ||| 2 ^ e.on ||| acc.getD e.on 0 else s) 0)) acc)
  | [], pre, acc, h => by simpa using h
  | o :: suf, pre, acc, h => by
    have := BInv.steps suf (pre ++ [o]) _ (h.step o)
    simpa using this
theorem before_spec (ops : Array Oper) : (Region.before ops).size = ops.size ∧ ∀ (x b : Nat), (Region.before ops)[x]? = some b → ∀ i, b.testBit i = true →
    ∃ o, ops[x]? = some o ∧ ∃ e ∈ o.after, Region.binds .any e = true ∧ (i = e.on ∨ ((Region.before ops).getD e.on 0).testBit i = true) := by
  have h := BInv.steps ops.toList [] #[] ⟨rfl, by simp⟩
  rw [List.nil_append] at h
  have he : Region.before ops = (ops.toList.foldl (fun acc o => acc.push (o.after.foldl (fun s e => if Region.binds .any e then s ||| 2 ^ e.on ||| acc.getD e.on 0 else s) 0)) #[]) := by
    unfold Region.before
    rw [← Array.foldl_toList]
  rw [he]
  refine ⟨by simpa using h.1, fun x b hx i hi => ?_⟩
  obtain ⟨o, h1, h2⟩ := h.2 x b hx i hi
  exact ⟨o, by simpa using h1, h2⟩

theorem before_lt {ops : Array Oper} (hb : Backward .any ops) : ∀ (x b : Nat), (Region.before ops)[x]? = some b → ∀ i, b.testBit i = true → i < x := by
  intro x
  induction x using Nat.strongRecOn with
  | _ x ih =>
    intro b hx i hi
    obtain ⟨o, ho, e, he, hbd, h1⟩ := (before_spec ops).2 x b hx i hi
    have hlt := hb x o ho e he hbd
    rcases h1 with h1 | h1
    · omega
    · have hxs : x < ops.size := by
        rcases Nat.lt_or_ge x ops.size with q | q
        · exact q
        · rw [Array.getElem?_eq_none q] at ho; cases ho
      have hs : e.on < (Region.before ops).size := by rw [(before_spec ops).1]; omega
      have := ih e.on hlt _ (Array.getElem?_eq_getElem hs) i (by simpa [Array.getD, hs] using h1)
      omega

theorem schedule_spec {P : Program} (hm : P.follows .mixedOrders = true) {ops : Array Oper} (hb : Backward .any ops) (t : Nat) :
    let l := Region.schedule (P.follows .mixedOrders) ops t
    (∀ x ∈ l, x < ops.size) ∧ l.Nodup ∧ (∀ x, x < ops.size → x ∈ l) ∧ Sched (Region.before ops).toList l := by
  have hsz : (Array.replicate ops.size false).size = ops.size := by simp
  have hun : ∀ x, x ∈ unl ops (Array.replicate ops.size false) ↔ x < ops.size := by
    intro x
    rw [mem_unl]
    constructor
    · exact fun h => h.1
    · intro h; exact ⟨h, by simp [Array.getD, h]⟩
  have hf : (unl ops (Array.replicate ops.size false)).length ≤ ops.size := by
    unfold unl
    refine Nat.le_trans (List.length_filter_le _ _) (by simp)
  obtain ⟨a, b, c, d⟩ := go_spec hb ops.size t (Array.replicate ops.size false) hsz hf
  have he : Region.schedule (P.follows .mixedOrders) ops t = Region.linearise.go .any ops ops.size t (Array.replicate ops.size false) [] := by
    simp only [Region.schedule, hm, Bool.true_or, if_true]
    rfl
  simp only [he]
  generalize Region.linearise.go .any ops ops.size t (Array.replicate ops.size false) [] = l at a b c d
  refine ⟨fun x hx => (hun x).1 (a x hx), b, fun x hx => c x ((hun x).2 hx), ?_⟩
  -- what an edge tells is in front
  have hfront : ∀ l1 x l2, l = l1 ++ x :: l2 → ∀ b, (Region.before ops).toList[x]? = some b → ∀ i, b.testBit i = true → i ∈ l1 := by
    intro l1
    generalize hn : l1.length = n
    induction n using Nat.strongRecOn generalizing l1 with
    | _ n ih =>
      intro x l2 hl b hx i hi
      obtain ⟨o, ho, e, he, hbd, h1⟩ := (before_spec ops).2 x b (by simpa using hx) i hi
      have h2 : e.on ∈ l1 := by
        rcases d l1 x l2 hl o ho e he hbd with h2 | h2
        · simp [Array.getD] at h2
        · exact h2
      rcases h1 with h1 | h1
      · rw [h1]; exact h2
      · obtain ⟨p, q, hpq⟩ := List.append_of_mem h2
        have hxs : e.on < ops.size := by
          exact (hun _).1 (a e.on (by rw [hl]; simp [h2]))
        have hs : e.on < (Region.before ops).size := by rw [(before_spec ops).1]; exact hxs
        have := ih p.length (by rw [← hn, hpq]; simp) p rfl e.on (q ++ x :: l2) (by simp [hl, hpq]) _ (by rw [Array.getElem?_toList]; exact Array.getElem?_eq_getElem hs) i (by simpa [Array.getD, hs] using h1)
        rw [hpq]; simp [this]
  intro l1 x l2 hl b' hx i hi hin
  have h1 := hfront l1 x l2 hl b' hx i hi
  rw [hl] at b
  have := List.nodup_append.1 b
  exact this.2.2 i h1 i hin rfl
end Go.AM

namespace Go.AM
open Go.RowKit
section
variable {P : Program} {fr : Frame} {cs : List Frame} {w w' : World} {k : List Item}

theorem st_exec {fr' : Frame} {cs' : List Frame} (hm : fr.mode = .run)
    (h : (stepG.exec P true true fr cs none w).bare = .go { frame := fr', callers := cs', status := .running, dying := none } w') : step P (lone fr cs w) = .next (lone fr' cs' w') :=
  step_lone_go (by
    have : stepG P true { frame := fr, callers := cs, status := .running, dying := none } w = stepG.exec P true true fr cs none w := by simp [stepG, hm]
    rw [this]; exact h)

theorem st_skip (hm : fr.mode = .run) (ht : fr.todo = .code .skip :: k) : step P (lone fr cs w) = .next (lone { fr with todo := k } cs w) :=
  st_exec hm (by simp [stepG.exec, ht])
theorem st_label {l : Nat} (hm : fr.mode = .run) (ht : fr.todo = .code (.label l) :: k) : step P (lone fr cs w) = .next (lone { fr with todo := k } cs w) :=
  st_exec hm (by simp [stepG.exec, ht])
theorem st_inBlock {id : Nat} (hm : fr.mode = .run) (ht : fr.todo = .inBlock id :: k) : step P (lone fr cs w) = .next (lone { fr with todo := k } cs w) :=
  st_exec hm (by simp [stepG.exec, ht])
theorem st_inScope {b : Code} (hm : fr.mode = .run) (ht : fr.todo = .inScope b :: k) : step P (lone fr cs w) = .next (lone { fr with todo := k } cs w) :=
  st_exec hm (by simp [stepG.exec, ht])
theorem st_seq {a b : Code} (hm : fr.mode = .run) (ht : fr.todo = .code (.seq a b) :: k) : step P (lone fr cs w) = .next (lone { fr with todo := .code a :: .code b :: k } cs w) :=
  st_exec hm (by simp [stepG.exec, ht])
theorem st_cond {c : Operand} {a b : Code} {t : Bool} (hm : fr.mode = .run) (ht : fr.todo = .code (.cond c a b) :: k) (hc : fr.eval c = .bool t) : step P (lone fr cs w) = .next (lone { fr with todo := .code (if t then a else b) :: k } cs w) :=
  st_exec hm (by simp [stepG.exec, ht, hc])
theorem st_block {id : Nat} {b : Code} (hm : fr.mode = .run) (ht : fr.todo = .code (.block id b) :: k) : step P (lone fr cs w) = .next (lone { fr with todo := .code b :: .inBlock id :: k } cs w) :=
  st_exec hm (by simp [stepG.exec, ht])
theorem st_loop {b : Code} (hm : fr.mode = .run) (ht : fr.todo = .code (.loop b) :: k) : step P (lone fr cs w) = .next (lone { fr with todo := .code b :: .inLoop b :: k } cs w) :=
  st_exec hm (by simp [stepG.exec, ht])
theorem st_inLoop {b : Code} (hm : fr.mode = .run) (ht : fr.todo = .inLoop b :: k) : step P (lone fr cs w) = .next (lone { fr with todo := .code b :: .inLoop b :: k } cs w) :=
  st_exec hm (by simp [stepG.exec, ht])
theorem st_scope {b : Code} (hm : fr.mode = .run) (ht : fr.todo = .code (.scope b) :: k) : step P (lone fr cs w) = .next (lone { fr with todo := .code b :: .inScope b :: k } cs w) :=
  st_exec hm (by simp [stepG.exec, ht])
theorem st_exit {id : Nat} {k' : List Item} (hm : fr.mode = .run) (ht : fr.todo = .code (.exit id) :: k) (he : Go.exitTo id k = some k') : step P (lone fr cs w) = .next (lone { fr with todo := k' } cs w) :=
  st_exec hm (by simp [stepG.exec, ht, he])
theorem st_goto {l : Nat} {k' : List Item} (hm : fr.mode = .run) (ht : fr.todo = .code (.goto l) :: k) (he : Go.gotoIn l k = some k') : step P (lone fr cs w) = .next (lone { fr with todo := k' } cs w) :=
  st_exec hm (by simp [stepG.exec, ht, he])
theorem st_region {id : Nat} {ops : Array Oper} (hm : fr.mode = .run) (ht : fr.todo = .code (.region id ops false) :: k) : step P (lone fr cs w) = .next (lone { fr with todo := .inRegion ops (List.range ops.size) :: k } cs w) :=
  st_exec hm (by simp [stepG.exec, ht])
theorem st_draw {id : Nat} {ops : Array Oper} (hm : fr.mode = .run) (ht : fr.todo = .code (.region id ops true) :: k) :
    step P (lone fr cs w) = .next (lone { fr with todo := .inRegion ops (Region.schedule (P.follows .mixedOrders) ops (w.tape w.drawn (.order fr.fn id))) :: k } cs w.drew) :=
  st_exec hm (by
    have h : (choose (.order fr.fn id)).run P w = .ok (w.tape w.drawn (.order fr.fn id)) w.drew := rfl
    simp only [stepG.exec, ht, Bool.not_true, Bool.false_eq_true, if_false, h]
    rfl)
theorem st_regionEnd {ops : Array Oper} (hm : fr.mode = .run) (ht : fr.todo = .inRegion ops [] :: k) : step P (lone fr cs w) = .next (lone { fr with todo := k } cs w) :=
  st_exec hm (by simp [stepG.exec, ht])

/-- the code comes to an end that is not in a round -/
theorem st_end (hm : fr.mode = .run) (ht : fr.todo = []) (hr : fr.roundOf = none) : step P (lone fr cs w) = .next (lone { fr with mode := .returning } cs w) :=
  st_exec hm (by simp [stepG.exec, ht, hr])
theorem st_ret (hm : fr.mode = .run) (ht : fr.todo = .code .ret :: k) (hr : fr.roundOf = none) : step P (lone fr cs w) = .next (lone { fr with mode := .returning } cs w) :=
  st_exec hm (by simp [stepG.exec, ht, hr])

/-- a round comes to an end -/
theorem st_roundEnd {l : Nat} {r : Loop} {jump : Option Code} {c : Frame} (hm : fr.mode = .run) (hr : fr.roundOf = some l) (hl : w.heap[l]? = some (.loop r)) (hk : fr.kind = .normal)
    (ht : (fr.todo = [] ∧ jump = none) ∨ (∃ k, fr.todo = .code .ret :: k ∧ jump = some .ret) ∨ (∃ k id, fr.todo = .code (.exit id) :: k ∧ Go.exitTo id k = none ∧ jump = some (.exit id)) ∨ (∃ k l, fr.todo = .code (.goto l) :: k ∧ Go.gotoIn l k = none ∧ jump = some (.goto l))) :
    step P (lone fr (c :: cs) w) = .next (lone (c.finish (.bool jump.isNone)) cs (w.putObj l (.loop { r with state := if jump.isNone then .ready else .done, pending := jump }))) := by
  have h := run_endRound (P := P) jump hl
  refine st_exec hm ?_
  rcases ht with ⟨ht, rfl⟩ | ⟨k, ht, rfl⟩ | ⟨k, id, ht, he, rfl⟩ | ⟨k, id, ht, he, rfl⟩
  · simp [stepG.exec, ht, hr, Sem.runT_eq, h, doReturn, hk]
  · simp [stepG.exec, ht, hr, Sem.runT_eq, h, doReturn, hk]
  · simp [stepG.exec, ht, hr, Sem.runT_eq, h, doReturn, hk, he]
  · simp [stepG.exec, ht, hr, Sem.runT_eq, h, doReturn, hk, he]
theorem st_endRange {l : Nat} {r : Loop} (hm : fr.mode = .run) (ht : fr.todo = .endRangeFunc l :: k) (hl : w.heap[l]? = some (.loop r)) (hb : r.state ≠ .busy) :
    step P (lone fr cs w) = .next (lone { fr with todo := (r.pending.map Item.code).toList ++ k } cs (w.putObj l (.loop { r with state := .exhausted }))) := by
  have h := run_endLoop (P := P) hl hb
  exact st_exec hm (by simp [stepG.exec, ht, Sem.runT_eq, h])

/-! ### what an operation brings -/
theorem kind_normal (h : ∀ d s a k, fr.todo ≠ .call d true s a :: k) : (match fr.todo with | .call _ true _ _ :: _ => CallKind.wrapped | _ => .normal) = .normal := by
  split
  · rename_i d s a k hk
    exact absurd hk (h _ _ _ _)
  · rfl
theorem ap_value {x : Sem Next} {v : Value} (h : x.run P w = .ok (.value v) w') : (stepG.apply P true fr cs none x w).bare = .go { frame := fr.finish v, callers := cs, status := .running, dying := none } w' := by
  simp [stepG.apply, Sem.runT_eq, h]
theorem ap_skip {x : Sem Next} (h : x.run P w = .ok .skip w') : (stepG.apply P true fr cs none x w).bare = .go { frame := fr.finish Go.undef, callers := cs, status := .running, dying := none } w' := by
  simp [stepG.apply, Sem.runT_eq, h]
theorem ap_enter {x : Sem Next} {f : FuncId} {args : Array Value} (h : x.run P w = .ok (.enter f args) w') (_hk : ∀ d s a k, fr.todo ≠ .call d true s a :: k) :
    (stepG.apply P true fr cs none x w).bare = .go { frame := Frame.enter P f args .normal, callers := fr :: cs, status := .running, dying := none } w' := by
  simp only [stepG.apply, Sem.runT_eq, h, if_true]
  simp
theorem ap_round {x : Sem Next} {l : Nat} {f : FuncId} {tmps : Array Value} {a b : Code} (h : x.run P w = .ok (.round l f tmps a b) w') :
    (stepG.apply P true fr cs none x w).bare = .go { frame := Frame.round l f tmps a b .normal, callers := fr :: cs, status := .running, dying := none } w' := by
  simp [stepG.apply, Sem.runT_eq, h]
theorem ap_defer {x : Sem Next} {d : Deferred} (h : x.run P w = .ok (.defer d) w') :
    (stepG.apply P true fr cs none x w).bare = .go { frame := { fr with defers := d :: fr.defers }.finish Go.undef, callers := cs, status := .running, dying := none } w' := by
  simp [stepG.apply, Sem.runT_eq, h]
theorem ap_recover {x : Sem Next} (h : x.run P w = .ok .recover w') (hr : fr.roundOf = none) (ht : tryRecover fr cs = none) :
    (stepG.apply P true fr cs none x w).bare = .go { frame := fr.finish .nilIface, callers := cs, status := .running, dying := none } w' := by
  simp [stepG.apply, Sem.runT_eq, h, hr, ht]

theorem st_op {ops : Array Oper} {i : Nat} {l : List Nat} {o : Oper} {fr' : Frame} {cs' : List Frame} (hm : fr.mode = .run) (ht : fr.todo = .inRegion ops (i :: l) :: k) (ho : ops[i]? = some o) (hw : Region.wanted o (yielded ops fr.tmps) = true)
    (hd : fr.roundOf = none ∨ ∀ c, o.op ≠ .defer c) (h : (stepG.apply P true fr cs none (execOp fr.eval o) w).bare = .go { frame := fr', callers := cs', status := .running, dying := none } w') :
    step P (lone fr cs w) = .next (lone fr' cs' w') := by
  refine st_exec hm ?_
  have he : stepG.exec P true true fr cs none w = stepG.apply P true fr cs none (execOp fr.eval o) w := by
    simp only [stepG.exec, ht, ho, Option.map_some, hw, Option.getD_some, if_true, stepG.oper, Frame.oper?]
    split
    · rename_i l' c h1 h2
      rcases hd with hd | hd
      · rw [hd] at h1; cases h1
      · exact absurd h2 (hd c)
    · rfl
  rw [he]; exact h
theorem st_opSkip {ops : Array Oper} {i : Nat} {l : List Nat} {o : Oper} (hm : fr.mode = .run) (ht : fr.todo = .inRegion ops (i :: l) :: k) (ho : ops[i]? = some o) (hw : Region.wanted o (yielded ops fr.tmps) = false) :
    step P (lone fr cs w) = .next (lone (fr.finish Go.undef) cs w) :=
  st_exec hm (by simp [stepG.exec, ht, ho, hw])
theorem st_beginRound {l : Nat} {r : Loop} (hm : fr.mode = .run) (ht : fr.todo = .beginRound :: k) (hr : fr.roundOf = some l) (hl : w.heap[l]? = some (.loop r)) (hs : r.state = .ready) :
    step P (lone fr cs w) = .next (lone { fr with todo := k } cs (w.putObj l (.loop { r with state := .busy }))) := by
  have h := run_beginRound (P := P) hl hs
  refine st_exec hm ?_
  simp only [stepG.exec, ht]
  rw [ap_skip (w' := w.putObj l (.loop { r with state := .busy }))]
  · simp [Frame.finish, ht]
  · simp [hr, h]
end
end Go.AM

namespace Go.AM
open Go.RowKit
section
variable {P : Program} {fr : Frame} {cs : List Frame} {w w' : World} {k : List Item}

theorem st_unwind {fr' : Frame} {cs' : List Frame} (hm : fr.mode = .returning)
    (h : (unwind P true fr cs none w).bare = .go { frame := fr', callers := cs', status := .running, dying := none } w') : step P (lone fr cs w) = .next (lone fr' cs' w') :=
  step_lone_go (by
    have : stepG P true { frame := fr, callers := cs, status := .running, dying := none } w = unwind P true fr cs none w := by simp [stepG, hm]
    rw [this]; exact h)
theorem st_return {c : Frame} {fn : Func} {v : Value} (hm : fr.mode = .returning) (hd : fr.defers = []) (hk : fr.kind = .normal) (hf : P.funcs[fr.fn]? = some fn) (hr : (results fn fr.tmps).run P w = .ok v w) :
    step P (lone fr (c :: cs) w) = .next (lone (c.finish v) cs w) :=
  st_unwind hm (by simp [unwind, hd, hm, hf, Sem.runT_eq, hr, doReturn, hk])
theorem st_returnDeferred {c : Frame} {fn : Func} {v : Value} (hm : fr.mode = .returning) (hd : fr.defers = []) (hk : fr.kind = .deferred) (hf : P.funcs[fr.fn]? = some fn) (hr : (results fn fr.tmps).run P w = .ok v w) (hc : c.mode = .returning) :
    step P (lone fr (c :: cs) w) = .next (lone c cs w) :=
  st_unwind hm (by simp [unwind, hd, hm, hf, Sem.runT_eq, hr, doReturn, hk, hc])
theorem st_take {b : Nat} {ds calls : List Deferred} {as : Array Value} (hm : fr.mode = .returning) (hd : fr.defers = { target := .collected b, args := as } :: ds) (hb : w.heap[b]? = some (.deferred (some calls))) :
    step P (lone fr cs w) = .next (lone { fr with defers := calls ++ ds } cs (w.putObj b (.deferred none))) := by
  have h := run_takeDeferred (P := P) hb
  exact st_unwind hm (by simp [unwind, hd, Sem.runT_eq, h])
theorem st_callDeferred {f : FuncId} {cap as args : Array Value} {ds : List Deferred} (hm : fr.mode = .returning) (hd : fr.defers = { target := .fn (.func f) cap, args := as } :: ds)
    (h : (callFunc f (as ++ cap)).run P w = .ok (.enter f args) w) :
    step P (lone fr cs w) = .next (lone (Frame.enter P f args .deferred) ({ fr with defers := ds } :: cs) w) := by
  have h' : (invoke (.fn (.func f) cap) as).run P w = .ok (.enter f args) w := h
  exact st_unwind hm (by simp [unwind, hd, callDeferred, Sem.runT_eq, h'])
theorem st_rangeFunc {f : Operand} {ps : Array Tmp} {a b : Code} {l : Nat} {mark : List Deferred} {fr' : Frame} {cs' : List Frame} {w1 : World} {x : Sem Next} (hm : fr.mode = .run) (ht : fr.todo = .code (.rangeFunc f ps a b) :: k)
    (he : (Instr.enterLoop fr.fn fr.tmps ps a b fr.roundOf).run P w = .ok (l, mark) w1)
    (hx : (do let d ← resolve fr.eval { callee := .value f, args := #[.const (.func (.yield l) #[] #[])], argTypes := #[] } 0; invoke d.target d.args : Sem Next) = x)
    (h : (stepG.apply P true { fr with todo := .inRangeFunc l :: k, defers := mark ++ fr.defers } cs none x w1).bare = .go { frame := fr', callers := cs', status := .running, dying := none } w') :
    step P (lone fr cs w) = .next (lone fr' cs' w') := by
  refine st_exec hm ?_
  simp only [stepG.exec, ht, Sem.runT_eq, he]
  have hev : ({ fr with todo := .inRangeFunc l :: k, defers := mark ++ fr.defers } : Frame).eval = fr.eval := by
    funext o; cases o <;> rfl
  rw [hev, hx]
  rw [GStep.bare_after]
  exact h
end
end Go.AM
