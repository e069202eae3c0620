/- Regions that draw their order. Without conditions. -/
import Derived.Test.YtkkieaphblcjjaaGreatC
import Derived.Test.YtkkieaphblcjjaaGreatS

namespace Go.AM
open Go.RowKit

/-! ### what stands to be done -/
inductive ItR (θ : Th) : AItem → Item → Prop
  | code (c : Code) : ItR θ (.code c) (.code c)
  | inBlock (id : Nat) : ItR θ (.inBlock id) (.inBlock id)
  | inLoop (c : Code) : ItR θ (.inLoop c) (.inLoop c)
  | inScope (c : Code) : ItR θ (.inScope c) (.inScope c)
  | inReg (ops : Array Oper) (rest : List Oper) (l : List Nat) (h : l.map (fun i => ops[i]?) = rest.map some) : ItR θ (.inReg ops rest) (.inRegion ops l)
  | inRange (l : Nat) (L : Loc) (h : θ l = some L) : ItR θ (.inRange l) (.inRangeFunc L.cb)
  | endRange (l : Nat) (L : Loc) (h : θ l = some L) : ItR θ (.endRange l) (.endRangeFunc L.cb)
  | beginRound : ItR θ .beginRound .beginRound
def ItsR (θ : Th) : List AItem → List Item → Prop
  | [], k => k = []
  | a :: l, k => ∃ x r, k = x :: r ∧ ItR θ a x ∧ ItsR θ l r
theorem ItR.mono {θ θ' : Th} (h : θ.le θ') {a : AItem} {x : Item} (hx : ItR θ a x) : ItR θ' a x := by
  cases hx with
  | code c => exact .code c
  | inBlock id => exact .inBlock id
  | inLoop c => exact .inLoop c
  | inScope c => exact .inScope c
  | inReg ops rest l h' => exact .inReg ops rest l h'
  | inRange l L h' => exact .inRange l L (h _ _ h')
  | endRange l L h' => exact .endRange l L (h _ _ h')
  | beginRound => exact .beginRound
theorem ItsR.mono {θ θ' : Th} (h : θ.le θ') : ∀ {l : List AItem} {k : List Item}, ItsR θ l k → ItsR θ' l k
  | [], _, hk => hk
  | _ :: _, _, ⟨x, r, h1, h2, h3⟩ => ⟨x, r, h1, h2.mono h, ItsR.mono h h3⟩
theorem ItsR.cons {θ : Th} {a : AItem} {x : Item} {l : List AItem} {r : List Item} (h : ItR θ a x) (h' : ItsR θ l r) : ItsR θ (a :: l) (x :: r) := ⟨x, r, rfl, h, h'⟩

theorem exitTo_sound {θ : Th} {id : Nat} : ∀ {l : List AItem} {k : List Item}, ItsR θ l k →
    (∀ l', AM.exitTo id l = some l' → ∃ k', Go.exitTo id k = some k' ∧ ItsR θ l' k') ∧ (AM.exitTo id l = none → Go.exitTo id k = none)
  | [], _, h => by cases h; exact ⟨fun l' h => by simp [AM.exitTo] at h, fun _ => rfl⟩
  | a :: l, _, ⟨x, r, rfl, h2, h3⟩ => by
    obtain ⟨i1, i2⟩ := exitTo_sound (id := id) h3
    cases h2 with
    | inBlock id' =>
      simp only [AM.exitTo, Go.exitTo]
      cases hb : Nat.beq id' id with
      | true =>
        have := of_nbeq hb
        subst this
        simp only [beq_self_eq_true, if_true]
        exact ⟨fun l' h => ⟨r, rfl, by cases h; exact h3⟩, fun h => by cases h⟩
      | false =>
        have := of_nbeq_false hb
        have hf : (id' == id) = false := by simpa using this
        simp only [hf, Bool.false_eq_true, if_false]
        exact ⟨i1, i2⟩
    | _ => simp only [AM.exitTo, Go.exitTo]; exact ⟨i1, i2⟩
theorem gotoIn_sound {θ : Th} {lb : Nat} : ∀ {l : List AItem} {k : List Item}, ItsR θ l k →
    (∀ l', AM.gotoIn lb l = some l' → ∃ k', Go.gotoIn lb k = some k' ∧ ItsR θ l' k') ∧ (AM.gotoIn lb l = none → Go.gotoIn lb k = none)
  | [], _, h => by cases h; exact ⟨fun l' h => by simp [AM.gotoIn] at h, fun _ => rfl⟩
  | a :: l, _, ⟨x, r, rfl, h2, h3⟩ => by
    obtain ⟨i1, i2⟩ := gotoIn_sound (lb := lb) h3
    cases h2 with
    | inScope c =>
      simp only [AM.gotoIn, Go.gotoIn]
      cases hb : findLabel c lb with
      | some rest => exact ⟨fun l' h => ⟨_, rfl, by cases h; exact .cons (.code _) (.cons (.inScope _) h3)⟩, fun h => by cases h⟩
      | none => exact ⟨i1, i2⟩
    | _ => simp only [AM.gotoIn, Go.gotoIn]; exact ⟨i1, i2⟩

/-! ### the order of a region does not matter -/
theorem mem_enum {α : Type} : ∀ {l : List α} {k i : Nat} {x : α}, (i, x) ∈ enum k l ↔ k ≤ i ∧ l[i - k]? = some x
  | [], k, i, x => by simp [enum]
  | a :: l, k, i, x => by
    simp only [enum, List.mem_cons, Prod.mk.injEq]
    rw [mem_enum (l := l)]
    constructor
    · rintro (⟨rfl, rfl⟩ | ⟨h1, h2⟩)
      · simp
      · have hk : k + 1 ≤ i := h1
        refine ⟨by omega, ?_⟩
        rw [show i - k = (i - (k + 1)) + 1 by omega]
        simpa using h2
    · rintro ⟨h1, h2⟩
      by_cases e : i = k
      · subst e
        simp at h2
        exact .inl ⟨rfl, h2.symm⟩
      · right
        refine ⟨by show k + 1 ≤ i; omega, ?_⟩
        rw [show i - k = (i - (k + 1)) + 1 by omega] at h2
        simpa using h2
theorem mem_enum0 {α : Type} {l : List α} {i : Nat} {x : α} : (i, x) ∈ enum 0 l ↔ l[i]? = some x := by
  rw [mem_enum]; simp

structure RegOK (ops : Array Oper) (bf : List Nat) : Prop where
  ex : ∀ (i : Nat) (o : Oper), ops[i]? = some o → ∃ b, bf[i]? = some b
  back : Backward .any ops
  guard : ∀ (i : Nat) (o : Oper) (b g : Nat) (x : Bool), ops[i]? = some o → bf[i]? = some b → o.guard = some (g, x) → b.testBit g = true
  dst : ∀ (i : Nat) (o : Oper) (j : Nat) (p : Oper) (d : Nat), ops[i]? = some o → ops[j]? = some p → o.dst = some d → p.dst = some d → i = j
  slot : ∀ (i : Nat) (o : Oper) (j : Nat) (p : Oper) (d bi bj : Nat), ops[i]? = some o → ops[j]? = some p → bf[i]? = some bi → bf[j]? = some bj → o.dst = some d → d ∈ opSlots p.op → bj.testBit i = true ∨ (active o.op = true ∧ (i = j ∨ bi.testBit j = true))

theorem regOk1_spec {i d : Nat} {act : Bool} {bi : Nat} {bf : List Nat} : ∀ {l : List (Nat × Oper)}, regOk1 i d act bi bf l = true → ∀ (j : Nat) (p : Oper), (j, p) ∈ l → ∃ bj, bf[j]? = some bj ∧
    (i = j ∨ p.dst ≠ some d) ∧ (d ∈ opSlots p.op → bj.testBit i = true ∨ (act = true ∧ (i = j ∨ bi.testBit j = true)))
  | [], _, _, _, h => by simp at h
  | (j0, p0) :: r, h, j, p, hm => by
    unfold regOk1 at h
    split at h
    · rename_i bj hbj
      split at h
      · rename_i hc
        rcases List.mem_cons.1 hm with e | hm
        · cases e
          have hc' := (Bool.and_eq_true _ _).mp hc
          refine ⟨bj, hbj, ?_, ?_⟩
          · have := hc'.1
            rw [Bool.or_eq_true] at this
            rcases this with h1 | h1
            · exact .inl (of_nbeq h1)
            · right
              intro hd
              rw [hd] at h1
              simp only [Bool.not_eq_true'] at h1
              exact of_nbeq_false h1 rfl
          · intro hd
            have h2 := hc'.2
            have hany : (opSlots p0.op).any (Nat.beq d) = true := List.any_eq_true.2 ⟨d, hd, nbeq_true rfl⟩
            rw [hany] at h2
            simp only [Bool.not_true, Bool.false_or, Bool.or_eq_true, Bool.and_eq_true] at h2
            rcases h2 with h2 | ⟨h2, h3⟩
            · exact .inl h2
            · exact .inr ⟨h2, h3.imp of_nbeq id⟩
        · exact regOk1_spec h j p hm
      · cases h
    · cases h
theorem regOk_mem {ops : Array Oper} {bf : List Nat} : ∀ {l : List (Nat × Oper)}, regOk ops bf l = true → ∀ (i : Nat) (o : Oper), (i, o) ∈ l → ∃ bi, bf[i]? = some bi ∧ (∀ e ∈ o.after, Region.binds .any e = true → e.on < i) ∧
    (∀ g x, o.guard = some (g, x) → bi.testBit g = true) ∧ ∀ d, o.dst = some d → regOk1 i d (active o.op) bi bf (enum 0 ops.toList) = true
  | [], _, _, _, h => by simp at h
  | (i0, o0) :: r, h, i, o, hm => by
    unfold regOk at h
    split at h
    · rename_i bi hbi
      split at h
      · rename_i hc
        rcases List.mem_cons.1 hm with e | hm
        · cases e
          have hc' := (Bool.and_eq_true _ _).mp hc
          have hc2 := (Bool.and_eq_true _ _).mp hc'.1
          refine ⟨bi, hbi, ?_, ?_, ?_⟩
          · intro e he hb
            have := List.all_eq_true.1 hc2.1 e (by simpa using he)
            rw [hb] at this
            exact of_blt (by simpa using this)
          · intro g x hg
            have := hc2.2
            rw [hg] at this
            exact this
          · intro d hd
            have := hc'.2
            rw [hd] at this
            exact this
        · exact regOk_mem h i o hm
      · cases h
    · cases h
theorem regOk_spec {ops : Array Oper} {bf : List Nat} (h : regOk ops bf (enum 0 ops.toList) = true) : RegOK ops bf := by
  have hm : ∀ i o, ops[i]? = some o → (i, o) ∈ enum 0 ops.toList := fun i o ho => mem_enum0.2 (by simpa using ho)
  have key := fun i o ho => regOk_mem h i o (hm i o ho)
  refine ⟨fun i o ho => let ⟨b, hb, _⟩ := key i o ho; ⟨b, hb⟩, fun i o ho => let ⟨b, hb, h1, _⟩ := key i o ho; h1, ?_, ?_, ?_⟩
  · intro i o b g x ho hb hg
    obtain ⟨b', hb', _, h2, _⟩ := key i o ho
    rw [hb] at hb'; cases hb'
    exact h2 g x hg
  · intro i o j p d ho hp hd hd'
    obtain ⟨b', hb', _, _, h3⟩ := key i o ho
    obtain ⟨bj, _, h4, _⟩ := regOk1_spec (h3 d hd) j p (hm j p hp)
    rcases h4 with h4 | h4
    · exact h4
    · exact absurd hd' h4
  · intro i o j p d bi bj ho hp hbi hbj hd hs
    obtain ⟨b', hb', _, _, h3⟩ := key i o ho
    rw [hbi] at hb'; cases hb'
    obtain ⟨bj', hbj', _, h5⟩ := regOk1_spec (h3 d hd) j p (hm j p hp)
    rw [hbj] at hbj'; cases hbj'
    exact h5 hs

/-! ### guards -/
/-- the slot that an operation's guard looks at -/
def guardSlot (ops : Array Oper) (o : Oper) : Option Nat := match o.guard with
  | none => none
  | some (j, _) => match ops[j]? with | some p => p.dst | none => none
theorem wanted_congr {ops : Array Oper} {tm tm' : Tr AVal} {o : Oper} (h : ∀ d, guardSlot ops o = some d → tm.get d = tm'.get d) : wanted ops tm o = wanted ops tm' o := by
  unfold wanted
  split
  · rfl
  · rename_i j x hg
    split
    · rename_i p hp
      split
      · rename_i d hd
        rw [h d (by simp [guardSlot, hg, hp, hd])]
      · rfl
    · rfl
theorem wanted_sound {θ : Th} {ops : Array Oper} {tm : Tr AVal} {nt : Nat} {ts : Array Value} (T : TR θ tm nt ts) {o : Oper} {b : Bool} (h : wanted ops tm o = some b) : Region.wanted o (yielded ops ts) = b := by
  unfold wanted at h
  split at h
  · rename_i hg
    cases h
    simp [Region.wanted, hg]
  · rename_i j x hg
    split at h
    · rename_i p hp
      split at h
      · rename_i d hd
        have hv := T.2 d
        split at h
        · rename_i c hc
          rw [hc] at hv
          simp only [Option.getD_some, VR] at hv
          have hy : yielded ops ts j = some c := by
            unfold yielded
            simp only [hp, hd, Option.bind_some]
            rw [Array.getD_eq_getD_getElem?] at hv
            cases hq : ts[d]? with
            | none => rw [hq] at hv; simp [Go.undef] at hv
            | some u => rw [hq] at hv; simp at hv; rw [hv]
          simp only [Region.wanted, hg, hy]
          cases c <;> cases x <;> simp at h <;> subst h <;> rfl
        · rename_i hc
          rw [hc] at hv
          simp only [Option.getD_some, VR, VRs] at hv
          obtain ⟨cs, hv1, hv2⟩ := hv
          have hy : yielded ops ts j = none := by
            unfold yielded
            simp only [hp, hd, Option.bind_some]
            rw [Array.getD_eq_getD_getElem?] at hv1
            cases hq : ts[d]? with
            | none => rfl
            | some u => rw [hq] at hv1; simp at hv1; rw [hv1]
          cases h
          simp [Region.wanted, hg, hy]
        · cases h
      · cases h
    · cases h
end Go.AM

namespace Go.AM
open Go.RowKit
section
variable (C : Cfg)
noncomputable def fr0 : AFr := { fn := 0, tmps := .leaf, nt := 0, todo := [], defers := [], mode := .run, deferred := false, roundOf := none }
noncomputable def qop (o : Op) (tm : Tr AVal) (s : St) : Res := aop C o tm fr0 [] s

/-- what the machine will find when it comes to an operation that was done here before its turn -/
structure Prom (θ : Th) (s : St) (ops : Array Oper) (tm : Tr AVal) (rd : Bool) (dep : Nat → Option Nat) (n k : Nat) (o : Oper) : Prop where
  quiet : active o.op = false
  want : (wanted ops tm o = some false ∧ ∀ d, o.dst = some d → tm.get d = some (.tuple [])) ∨
    (wanted ops tm o = some true ∧ ∃ v, (∀ d, o.dst = some d → tm.get d = some v) ∧
      (isAlloc o.op = true → ∃ y s0 s1, aop1 C o.op tm s0 = some (.val v s1) ∧ s0.next = k ∧ s1.heap = s0.heap.set k y ∧ s.heap.get k = some y ∧ θ k = none ∧ dep k = some n) ∧
      (isAlloc o.op = false → (quietRead o.op = false ∨ rd = true) → qop C o.op tm s = some (.val v s)))
end

section
variable {C : Cfg} {θ θ' : Th} {base : Nat} {s s' : St} {w : World} {tm tm' : Tr AVal} {nt : Nat} {ts : Array Value} {v : AVal} {ops : Array Oper} {o : Oper} {rd rd' : Bool} {dep dep' : Nat → Option Nat} {n k : Nat}

theorem Prom.mono (h : Prom C θ s ops tm rd dep n k o)
    (hk : isAlloc o.op = true → wanted ops tm o = some true → ∀ x, θ k = none → dep k = some n → s.heap.get k = some x → s'.heap.get k = some x ∧ θ' k = none ∧ dep' k = some n)
    (hrd : rd' = true → rd = true ∧ (quietRead o.op = true → ∀ v, qop C o.op tm s = some (.val v s) → qop C o.op tm s' = some (.val v s'))) : Prom C θ' s' ops tm rd' dep' n k o := by
  refine ⟨h.quiet, h.want.imp id ?_⟩
  rintro ⟨h1, v, h2, h3, h4⟩
  refine ⟨h1, v, h2, ?_, ?_⟩
  · intro ha
    obtain ⟨y, s0, s1, g1, g2, g3, g4, g5, g6⟩ := h3 ha
    obtain ⟨k1, k2, k3⟩ := hk ha h1 y g5 g6 g4
    exact ⟨y, s0, s1, g1, g2, g3, k1, k2, k3⟩
  · intro ha hq
    cases hr : quietRead o.op with
    | false =>
      have := h4 ha (.inl hr)
      unfold qop at this ⊢
      rw [aop_pure h.quiet ha hr s s', this]
      rfl
    | true =>
      rcases hq with hq | hq
      · rw [hr] at hq; cases hq
      · obtain ⟨r1, r2⟩ := hrd hq
        exact r2 hr v (h4 ha (.inr r1))

theorem Prom.congr (h : Prom C θ s ops tm rd dep n k o) (hs : ∀ t ∈ opSlots o.op, tm.get t = tm'.get t) (hg : ∀ d, guardSlot ops o = some d → tm.get d = tm'.get d) (hd : ∀ d, o.dst = some d → tm.get d = tm'.get d) :
    Prom C θ s ops tm' rd dep n k o := by
  refine ⟨h.quiet, ?_⟩
  rw [← wanted_congr hg]
  rcases h.want with ⟨h1, h2⟩ | ⟨h1, v, h2, h3, h4⟩
  · exact .inl ⟨h1, fun d e => by rw [← hd d e]; exact h2 d e⟩
  · refine .inr ⟨h1, v, fun d e => by rw [← hd d e]; exact h2 d e, fun ha => ?_, fun ha hq => ?_⟩
    · obtain ⟨y, s0, s1, g1, g2⟩ := h3 ha
      exact ⟨y, s0, s1, by rw [← aop1_congr hs]; exact g1, g2⟩
    · unfold qop
      rw [← aop_congr hs]
      exact h4 ha hq

theorem aop_quiet (hC : CfgOK C) (W : WR θ C.lo base s.heap w) (T : TR θ tm nt ts) {fr : AFr} {callers : List AFr} (hq : active o.op = false) (ha : isAlloc o.op = false) (h : aop C o.op tm fr callers s = some (.val v s')) :
    s' = s ∧ Quiet C.P θ w (execOp (ρ ts) o) v := by
  unfold aop at h
  split at h
  case h_1 c ho =>
    rw [ho] at hq
    simp only [active] at hq
    unfold opCall at h
    split at h
    · rename_i args hargs
      have hA := VRs.array T hargs
      split at h
      · rename_i b hb
        rw [hb] at hq
        obtain ⟨v, s', e, h1⟩ := onlyVal_some h
        cases e
        have key : ∀ {x : Sem Next}, builtin b c.argTypes o.type (c.args.map fun | .const _ => true | _ => false) (c.args.map (ρ ts)) = x → Quiet C.P θ w x v → Quiet C.P θ w (execOp (ρ ts) o) v := by
          rintro x rfl ⟨nx, g1, g2⟩
          refine ⟨nx, ?_, g2⟩
          simp only [execOp, ho, resolve, hb]
          exact g1
        have h1' : ∀ {x : AVal}, args = [x] → ∃ x', c.args.map (ρ ts) = #[x'] ∧ VR θ x x' := by
          intro x hx
          rw [hx] at hA
          simp only [VRs] at hA
          obtain ⟨x', r, e1, e2, e3⟩ := hA
          subst e3
          exact ⟨x', by apply Array.toList_inj.1; simpa using e1, e2⟩
        have h2' : ∀ {x y : AVal}, args = [x, y] → ∃ x' y', c.args.map (ρ ts) = #[x', y'] ∧ VR θ x x' ∧ VR θ y y' := by
          intro x y hx
          rw [hx] at hA
          simp only [VRs] at hA
          obtain ⟨x', r, e1, e2, y', r2, e3, e4, e5⟩ := hA
          subst e5 e3
          exact ⟨x', y', by apply Array.toList_inj.1; simpa using e1, e2, e4⟩
        unfold opBuiltin at h1
        split at h1
        · obtain ⟨x', e1, e2⟩ := h1' rfl
          obtain ⟨g1, g2⟩ := opLen_sound (ty := o.type) hC W e2 h1
          exact ⟨g1, key rfl (by rw [e1]; exact Quiet.of g2)⟩
        · simp at hq
        · simp at hq
        · simp at hq
        · obtain ⟨x', y', e1, e2, e3⟩ := h2' rfl
          obtain ⟨g1, g2⟩ := val_some h1
          exact ⟨g2, key rfl (by rw [e1]; exact Quiet.of (opMin_sound (C := C) (w := w) (ats := c.argTypes) (ty := o.type) e2 e3 g1))⟩
        · obtain ⟨x', y', e1, e2, e3⟩ := h2' rfl
          obtain ⟨g1, g2⟩ := val_some h1
          exact ⟨g2, key rfl (by rw [e1]; exact Quiet.of (opMax_sound (C := C) (w := w) (ats := c.argTypes) (ty := o.type) e2 e3 g1))⟩
        · simp at hq
        · cases h1
      · rename_i f hf
        simp [hf] at hq
      · cases h
    · cases h
  case h_2 c ho => rw [ho] at hq; cases hq
  case h_3 it b ho => rw [ho] at hq; cases hq
  case h_4 =>
    obtain ⟨v, s', e, h1⟩ := onlyVal_some h
    cases e
    exact aop1_quiet hC W T hq ha h1

/-- the machine comes to it -/
theorem Prom.run (hC : CfgOK C) (W : WR θ C.lo base s.heap w) (T : TR θ tm' nt ts) (h : Prom C θ s ops tm true dep n k o) (hs : ∀ t ∈ opSlots o.op, tm.get t = tm'.get t) (hg : ∀ d, guardSlot ops o = some d → tm.get d = tm'.get d) :
    (Region.wanted o (yielded ops ts) = false ∧ ∀ d, o.dst = some d → tm.get d = some (.tuple [])) ∨
    (Region.wanted o (yielded ops ts) = true ∧ ∃ v θ' w' nx, (execOp (ρ ts) o).run C.P w = .ok nx w' ∧ NV θ' v nx ∧ WR θ' C.lo base s.heap w' ∧ Below base w w' ∧ θ.le θ' ∧
      (∀ b, θ b = none → (isAlloc o.op = true → b ≠ k) → θ' b = none) ∧ (isAlloc o.op = true → dep k = some n) ∧ (∀ d, o.dst = some d → tm.get d = some v)) := by
  rcases h.want with ⟨h1, h2⟩ | ⟨h1, v, h2, h3, h4⟩
  · rw [wanted_congr hg] at h1
    exact .inl ⟨wanted_sound T h1, h2⟩
  · rw [wanted_congr hg] at h1
    refine .inr ⟨wanted_sound T h1, v, ?_⟩
    cases ha : isAlloc o.op with
    | true =>
      obtain ⟨y, s0, s1, g1, g2, g3, g4, g5, g6⟩ := h3 ha
      rw [aop1_congr hs] at g1
      obtain ⟨y', q1, q2, q3, q4, q5⟩ := aop1_alloc hC ha g1
      have hy : y = y' := by
        have : (s0.heap.set k y).get k = (s0.heap.set s0.next y').get k := by rw [← g3, ← q3]
        rw [g2, Tr.get_set, Tr.get_set, if_pos rfl, if_pos rfl] at this
        cases this; rfl
      subst hy
      have hm := q5 θ ts nt T
      rw [g2] at hm
      obtain ⟨ob, csz, v', m1, m2⟩ := hm w
      have hle := Th.le_upd (L := ⟨w.heap.size, 0, csz⟩) g5
      obtain ⟨m3, m4⟩ := m2 _ hle (Th.upd_self _ _ _)
      refine ⟨_, _, _, m1, .inl ⟨v', rfl, m4⟩, W.made g5 g4 ob csz m3, (Below.refl _ _).alloc W.size _, hle, ?_, fun _ => g6, h2⟩
      intro b hb hne
      have := hne rfl
      simp [Th.upd, this, hb]
    | false =>
      have hq := h4 ha (.inr rfl)
      unfold qop at hq
      rw [aop_congr hs] at hq
      obtain ⟨nx, e1, e2⟩ := (aop_quiet hC W T h.quiet ha hq).2
      exact ⟨θ, w, nx, e1, e2, W, Below.refl _ _, Th.le_refl _, fun b hb _ => hb, fun e => absurd e (by simp), h2⟩
end
end Go.AM

namespace Go.AM
open Go.RowKit
section
variable (C : Cfg)

/-- a region whose operations the machine does in an order of its own: here some are done already that are still to come there (l) -/
structure DrawR (θ : Th) (s : St) (dep : Nat → Option Nat) (n : Nat) (tm tmL : Tr AVal) (nt : Nat) (ops : Array Oper) (bf : List Nat) (done : Nat) (rest : List (Nat × Oper)) (pend : Option Nat) (l : List Nat) : Prop where
  ok : RegOK ops bf
  sched : Sched bf l
  nd : l.Nodup
  lt : ∀ x ∈ l, x < ops.size
  dn : ∀ i, i < ops.size → i ∉ l → done.testBit i = true
  rest : rest = (enum 0 ops.toList).filter fun x => !done.testBit x.1 && !(pend == some x.1)
  closed : ∀ i b, done.testBit i = true → bf[i]? = some b → ∀ j, b.testBit j = true → done.testBit j = true
  bound : ∀ i o d, done.testBit i = true → ops[i]? = some o → o.dst = some d → d < nt
  agree : ∀ d, (∀ i ∈ l, done.testBit i = true → ∀ o, ops[i]? = some o → o.dst ≠ some d) → tm.get d = tmL.get d
  bits : ∀ (x b : Nat), bf[x]? = some b → ∀ j, b.testBit j = true → j < x
  head : ∀ j, pend = some j → done.testBit j = false → ∃ l', l = j :: l'
  past : ∀ j, pend = some j → done.testBit j = true → j ∉ l ∧ ∀ (b : Nat), bf[j]? = some b → ∀ i ∈ l, b.testBit i = false
  proms : ∃ K : Nat → Nat, (∀ i ∈ l, ∀ j ∈ l, ∀ oi oj, done.testBit i = true → done.testBit j = true → ops[i]? = some oi → ops[j]? = some oj → isAlloc oi.op = true → isAlloc oj.op = true →
      wanted ops tm oi = some true → wanted ops tm oj = some true → K i = K j → i = j) ∧
    ∀ i ∈ l, done.testBit i = true → ∀ o, ops[i]? = some o → Prom C θ s ops tm pend.isNone dep n (K i) o

def PlainR (θ : Th) (a : AFr) (f : Frame) : Prop := TR θ a.tmps a.nt f.tmps ∧ ItsR θ a.todo f.todo
def DrawFR (θ : Th) (s : St) (dep : Nat → Option Nat) (n : Nat) (a : AFr) (f : Frame) : Prop :=
  ∃ ops bf done rest pend k l k' tmL, a.todo = .inDraw ops bf done rest pend :: k ∧ f.todo = .inRegion ops l :: k' ∧ ItsR θ k k' ∧ TR θ tmL a.nt f.tmps ∧ DrawR C θ s dep n a.tmps tmL a.nt ops bf done rest pend l
structure FrR (θ : Th) (s : St) (dep : Nat → Option Nat) (n : Nat) (a : AFr) (f : Frame) : Prop where
  fn : f.fn = a.fn
  kind : f.kind = if a.deferred then .deferred else .normal
  rnd : match a.roundOf with
    | none => f.roundOf = none
    | some l => a.deferred = false ∧ ∃ L, θ l = some L ∧ f.roundOf = some L.cb
  defs : DRs θ a.defers f.defers
  body : match a.mode with
    | .returning => f.mode = .returning ∧ TR θ a.tmps a.nt f.tmps
    | .run => f.mode = .run ∧ (PlainR θ a f ∨ DrawFR C θ s dep n a f)
/-- it waits for another frame -/
def Waits (a : AFr) : Prop := ∀ ops bf done rest pend k, a.todo = .inDraw ops bf done rest pend :: k → ∃ j, pend = some j ∧ done.testBit j = false
def CsR (θ : Th) (s : St) (dep : Nat → Option Nat) (csT : List Frame) : List AFr → List Frame → Prop
  | [], cs => cs = csT
  | a :: as, cs => ∃ c r, cs = c :: r ∧ FrR C θ s dep as.length a c ∧ (Waits a ∨ a.mode = .returning) ∧ CsR θ s dep csT as r
structure MR (θ : Th) (base : Nat) (dep : Nat → Option Nat) (O : Nat → ABlk → Prop) (csT : List Frame) (m : AM) (f : Frame) (cs : List Frame) (w : World) : Prop where
  W : WR θ C.lo base m.st.heap w
  cur : FrR C θ m.st dep m.callers.length m.cur f
  callers : CsR C θ m.st dep csT m.callers cs
  out : ∀ b x, O b x → θ b = none ∧ m.st.heap.get b = some x ∧ dep b = none
end

section
variable {C : Cfg} {θ θ' : Th} {base : Nat} {s s' : St} {w : World} {tm tmL : Tr AVal} {nt : Nat} {ts : Array Value} {v : AVal} {ops : Array Oper} {o : Oper} {dep dep' : Nat → Option Nat} {n k : Nat} {bf : List Nat} {done : Nat} {rest : List (Nat × Oper)} {pend : Option Nat} {l : List Nat}

theorem DrawR.mono (D : DrawR C θ s dep n tm tmL nt ops bf done rest pend l)
    (h : ∀ b x, θ b = none → dep b = some n → s.heap.get b = some x → s'.heap.get b = some x ∧ θ' b = none ∧ dep' b = some n) (hp : pend.isNone = true → s' = s) : DrawR C θ' s' dep' n tm tmL nt ops bf done rest pend l := by
  obtain ⟨K, k1, k2⟩ := D.proms
  refine { D with proms := ⟨K, k1, fun i hi hd o ho => (k2 i hi hd o ho).mono (fun _ _ x g1 g2 g3 => h _ x g1 g2 g3) fun hr => ⟨hr, fun _ v hv => ?_⟩⟩ }
  rw [hp hr]; exact hv

theorem FrR.mono {a : AFr} {f : Frame} (F : FrR C θ s dep n a f) (hle : θ.le θ')
    (h : ∀ b x, θ b = none → dep b = some n → s.heap.get b = some x → s'.heap.get b = some x ∧ θ' b = none ∧ dep' b = some n) (hp : (Waits a ∨ a.mode = .returning) ∨ s' = s) : FrR C θ' s' dep' n a f := by
  refine ⟨F.fn, F.kind, ?_, F.defs.mono hle, ?_⟩
  · have := F.rnd
    split at this
    · exact this
    · obtain ⟨h1, L, h2, h3⟩ := this; exact ⟨h1, L, hle _ _ h2, h3⟩
  · have := F.body
    split at this
    · exact ⟨this.1, this.2.mono hle⟩
    · rename_i hm
      refine ⟨this.1, this.2.imp (fun p => ⟨p.1.mono hle, p.2.mono hle⟩) ?_⟩
      rintro ⟨ops, bf, done, rest, pend, k, l, k', tmL, h1, h2, h3, h4, h5⟩
      refine ⟨ops, bf, done, rest, pend, k, l, k', tmL, h1, h2, h3.mono hle, h4.mono hle, h5.mono h fun hn => ?_⟩
      rcases hp with (hp | hp) | hp
      · cases pend with
        | none => obtain ⟨j, e, _⟩ := hp _ _ _ _ _ _ h1; cases e
        | some j => cases hn
      · rw [hm] at hp; cases hp
      · exact hp
theorem CsR.mono {csT : List Frame} (hle : θ.le θ') : ∀ {as : List AFr} {cs : List Frame},
    (∀ b x n, n < as.length → θ b = none → dep b = some n → s.heap.get b = some x → s'.heap.get b = some x ∧ θ' b = none ∧ dep' b = some n) → CsR C θ s dep csT as cs → CsR C θ' s' dep' csT as cs
  | [], _, _, h => h
  | a :: as, _, h, ⟨c, r, h1, h2, h3, h4⟩ =>
    ⟨c, r, h1, h2.mono hle (fun b x => h b x _ (by simp)) (.inl h3), h3, CsR.mono hle (fun b x n hn => h b x n (by simp; omega)) h4⟩

/-- the operands of the next operation stand as they stand there -/
theorem DrawR.slots {x : Nat} (D : DrawR C θ s dep n tm tmL nt ops bf done rest pend (x :: l)) (ho : ops[x]? = some o) :
    (∀ t ∈ opSlots o.op, tm.get t = tmL.get t) ∧ (∀ d, guardSlot ops o = some d → tm.get d = tmL.get d) := by
  obtain ⟨bx, hbx⟩ := D.ok.ex x o ho
  have hs : ∀ i, bx.testBit i = true → i ∉ x :: l := D.sched [] x l rfl bx hbx
  obtain ⟨K, _, k2⟩ := D.proms
  constructor
  · intro t ht
    refine D.agree t fun i hi hd oi hoi hdst => ?_
    obtain ⟨bi, hbi⟩ := D.ok.ex i oi hoi
    rcases D.ok.slot i oi x o t bi bx hoi ho hbi hbx hdst ht with h1 | ⟨h1, _⟩
    · exact hs i h1 hi
    · have := (k2 i hi hd oi hoi).quiet
      rw [h1] at this; cases this
  · intro d hg
    unfold guardSlot at hg
    split at hg
    · cases hg
    · rename_i j y hgd
      split at hg
      · rename_i p hp
        refine D.agree d fun i hi hdn oi hoi hdst => ?_
        have hij := D.ok.dst i oi j p d hoi hp hdst hg
        subst hij
        exact hs i (D.ok.guard x o bx i y ho hbx hgd) hi
      · cases hg

theorem finish_region {f : Frame} {x : Nat} {k' : List Item} (ht : f.todo = .inRegion ops (x :: l) :: k') (ho : ops[x]? = some o) (v : Value) :
    f.finish v = { f with tmps := match o.dst with | some d => f.tmps.setIfInBounds d v | none => f.tmps, todo := .inRegion ops l :: k' } := by
  unfold Frame.finish
  rw [ht]
  simp only [ho, Option.bind_some]
  cases o.dst <;> rfl

/-- the machine does what was done here before -/
theorem DrawR.catch (hC : CfgOK C) (W : WR θ C.lo base s.heap w) {f : Frame} {cs : List Frame} {k' : List Item} {x : Nat} (T : TR θ tmL nt f.tmps) (D : DrawR C θ s dep n tm tmL nt ops bf done rest none (x :: l)) (hx : done.testBit x = true)
    (hm : f.mode = .run) (ht : f.todo = .inRegion ops (x :: l) :: k') (_hr : f.roundOf = none ∨ True) :
    ∃ (θ' : Th) (w' : World) (tmL' : Tr AVal) (f' : Frame), Go.step C.P (lone f cs w) = .next (lone f' cs w') ∧ f' = { f with tmps := f'.tmps, todo := .inRegion ops l :: k' } ∧ WR θ' C.lo base s.heap w' ∧ Below base w w' ∧ θ.le θ' ∧ (∀ b, θ b = none → dep b ≠ some n → θ' b = none) ∧
      TR θ' tmL' nt f'.tmps ∧ DrawR C θ' s dep n tm tmL' nt ops bf done rest none l := by
  have hlt := D.lt x (by simp)
  have ho : ops[x]? = some ops[x] := Array.getElem?_eq_getElem hlt
  generalize ops[x] = o at ho
  obtain ⟨hs, hg⟩ := D.slots ho
  obtain ⟨K, k1, k2⟩ := D.proms
  have hP := k2 x (by simp) hx o ho
  have hev : f.eval = ρ f.tmps := by funext y; cases y <;> rfl
  have hnl : x ∉ l := (List.nodup_cons.1 D.nd).1
  -- the relation afterwards
  have after : ∀ (θ' : Th) (tmL' : Tr AVal), (∀ d, o.dst ≠ some d → tmL'.get d = tmL.get d) → (∀ d, o.dst = some d → tm.get d = tmL'.get d) → (∀ b, θ b = none → (isAlloc o.op = true → wanted ops tm o = some true → b ≠ K x) → θ' b = none) →
      DrawR C θ' s dep n tm tmL' nt ops bf done rest none l := by
    intro θ' tmL' h1 h2 h3
    refine { ok := D.ok, sched := D.sched.tail, nd := (List.nodup_cons.1 D.nd).2, lt := fun y hy => D.lt y (by simp [hy]), dn := ?_, rest := D.rest, closed := D.closed, bound := D.bound, agree := ?_, bits := D.bits, head := fun j e => (by cases e), past := fun j e => (by cases e), proms := ?_ }
    · intro i hi hl
      by_cases e : i = x
      · rw [e]; exact hx
      · exact D.dn i hi (by simp [e, hl])
    · intro d hd
      by_cases e : o.dst = some d
      · exact h2 d e
      · rw [h1 d e]
        refine D.agree d fun i hi hdn oi hoi => ?_
        rcases List.mem_cons.1 hi with rfl | hi
        · rw [ho] at hoi; cases hoi; exact e
        · exact hd i hi hdn oi hoi
    · refine ⟨K, fun i hi j hj => k1 i (by simp [hi]) j (by simp [hj]), fun i hi hdn oi hoi => (k2 i (by simp [hi]) hdn oi hoi).mono ?_ fun h => ⟨h, fun _ v hv => hv⟩⟩
      intro ha hw y g1 g2 g3
      refine ⟨g3, h3 _ g1 fun ha' hw' e => ?_, g2⟩
      have := k1 i (by simp [hi]) x (by simp) oi o hdn hx hoi ho ha ha' hw hw' e
      subst this
      exact hnl hi
  rcases hP.run hC W T hs hg with ⟨h1, h2⟩ | ⟨h1, v, θ', w', nx, e1, e2, e3, e4, e5, e6, e7, e8⟩
  · -- not wanted
    have hst := st_opSkip (P := C.P) (cs := cs) (w := w) hm ht ho h1
    rw [finish_region ht ho] at hst
    cases hd : o.dst with
    | none =>
      rw [hd] at hst
      exact ⟨θ, w, tmL, _, hst, rfl, W, Below.refl _ _, Th.le_refl _, fun b hb _ => hb, T, after θ tmL (fun _ _ => rfl) (fun d e => by rw [hd] at e; cases e) fun b hb _ => hb⟩
    | some d =>
      rw [hd] at hst
      have hb := D.bound x o d hx ho hd
      refine ⟨θ, w, tmL.set d (.tuple []), _, hst, rfl, W, Below.refl _ _, Th.le_refl _, fun b hb _ => hb, T.set hb VR.uv, after θ _ (fun d' e => ?_) (fun d' e => ?_) fun b hb _ => hb⟩
      · rw [Tr.get_set, if_neg]
        rintro rfl
        exact e hd
      · rw [hd] at e; cases e
        rw [Tr.get_set, if_pos rfl]
        exact h2 d hd
  · have hw : wanted ops tm o = some true := by
      rcases hP.want with ⟨g1, _⟩ | ⟨g1, _⟩
      · rw [wanted_congr hg] at g1
        rw [wanted_sound T g1] at h1; cases h1
      · exact g1
    have hdep : ∀ b, θ b = none → dep b ≠ some n → θ' b = none := by
      intro b hb hd
      refine e6 b hb fun ha e => hd ?_
      rw [e]; exact e7 ha
    have hnd : f.roundOf = none ∨ ∀ c, o.op ≠ .defer c := .inr fun c e => by have := hP.quiet; rw [e] at this; cases this
    have hfin : ∀ (v' : Value), VR θ' v v' → Go.step C.P (lone f cs w) = .next (lone (f.finish v') cs w') → ∃ (θ' : Th) (w' : World) (tmL' : Tr AVal) (f' : Frame), Go.step C.P (lone f cs w) = .next (lone f' cs w') ∧ f' = { f with tmps := f'.tmps, todo := .inRegion ops l :: k' } ∧ WR θ' C.lo base s.heap w' ∧ Below base w w' ∧ θ.le θ' ∧ (∀ b, θ b = none → dep b ≠ some n → θ' b = none) ∧
      TR θ' tmL' nt f'.tmps ∧ DrawR C θ' s dep n tm tmL' nt ops bf done rest none l := by
      intro v' hv hst
      rw [finish_region ht ho] at hst
      cases hd : o.dst with
      | none =>
        rw [hd] at hst
        exact ⟨θ', w', tmL, _, hst, rfl, e3, e4, e5, hdep, T.mono e5, after θ' tmL (fun _ _ => rfl) (fun d e => by rw [hd] at e; cases e) fun b hb h' => e6 b hb fun ha => h' ha hw⟩
      | some d =>
        rw [hd] at hst
        have hb := D.bound x o d hx ho hd
        refine ⟨θ', w', tmL.set d v, _, hst, rfl, e3, e4, e5, hdep, (T.mono e5).set hb hv, after θ' _ (fun d' e => ?_) (fun d' e => ?_) fun b hb h' => e6 b hb fun ha => h' ha hw⟩
        · rw [Tr.get_set, if_neg]
          rintro rfl
          exact e hd
        · rw [hd] at e; cases e
          rw [Tr.get_set, if_pos rfl]
          exact e8 d hd
    rw [← hev] at e1
    rcases e2 with ⟨v', rfl, hv⟩ | ⟨rfl, rfl⟩
    · exact hfin v' hv (st_op hm ht ho h1 hnd (ap_value e1))
    · exact hfin Go.undef VR.uv (st_op hm ht ho h1 hnd (ap_skip e1))
end
end Go.AM

namespace Go.AM
open Go.RowKit
section
variable {C : Cfg} {θ θ' : Th} {base : Nat} {s s' : St} {w : World} {tm tmL : Tr AVal} {nt : Nat} {ts : Array Value} {v : AVal} {ops : Array Oper} {o : Oper} {dep dep' : Nat → Option Nat} {n k : Nat} {bf : List Nat} {done : Nat} {rest : List (Nat × Oper)} {pend : Option Nat} {l : List Nat}

/-- what is read stays as it is when a block comes that was not there -/
def Keeps (s s' : St) : Prop := ∀ b x, s.heap.get b = some x → s'.heap.get b = some x
theorem loadVar_keeps (hk : Keeps s s') {t : TypeId} {b off : Nat} {v : AVal} (h : AM.loadVar C s t b off = some v) : AM.loadVar C s' t b off = some v := by
  have hl : ∀ n l, AM.loadCells s b off n = some l → AM.loadCells s' b off n = some l := by
    intro n l h
    cases n with
    | zero => exact h
    | succ n =>
      simp only [AM.loadCells] at h ⊢
      obtain ⟨e, m, t, h1, h2⟩ := getRow_some h
      unfold AM.getRow
      rw [hk _ _ h1]
      exact h2
  unfold AM.loadVar at h ⊢
  split at h
  · split at h
    · rename_i l hl'
      rw [hl _ _ hl']
      exact h
    · cases h
  · split at h
    · rename_i l hl'
      rw [hl _ _ hl']
      exact h
    · cases h
  · cases h
theorem opLoad_keeps (hk : Keeps s s') {t : TypeId} {a : Option AVal} (h : opLoad C t a s = some (.val v s)) : opLoad C t a s' = some (.val v s') := by
  unfold opLoad at h ⊢
  split at h
  · obtain ⟨h1, _⟩ := val_some h
    simp only [loadVar_keeps hk h1, val]
  · cases h
theorem opLookup_keeps (hk : Keeps s s') {t : TypeId} {x y : Option AVal} {ok : Bool} (h : opLookup C t x y ok s = some (.val v s)) : opLookup C t x y ok s' = some (.val v s') := by
  unfold opLookup at h ⊢
  split at h
  · rename_i kt et x k hu
    split at h
    · cases h
    · rename_i hko
      simp only at h ⊢
      cases x with
      | nilmap =>
        simp only at h ⊢
        split at h
        · cases h; rfl
        · cases h
      | map b =>
        simp only at h ⊢
        cases hb : s.heap.get b with
        | none => rw [hb] at h; cases h
        | some blk =>
          rw [hb] at h
          rw [hk _ _ hb]
          cases blk with
          | map es c =>
            simp only at h ⊢
            split at h
            · rename_i v' hv
              cases h; rfl
            · rename_i hv
              split at h
              · cases h; rfl
              · cases h
            · cases h
          | _ => cases h
      | _ => cases h
  · cases h
theorem opEntry_keeps (hk : Keeps s s') {x : Option AVal} (h : opEntry x s = some (.val v s)) : opEntry x s' = some (.val v s') := by
  unfold opEntry at h ⊢
  split at h
  · split at h
    · rename_i m since seen rb hb
      split at h
      · rename_i es clock n hm hl
        split at h
        · rename_i k x bn h1 h2
          cases h
          simp only [hk _ _ hb, hk _ _ hm, hl, h1, h2]
        · cases h
      · cases h
    · cases h
  · cases h
theorem opLen_keeps (hk : Keeps s s') {t : Option TypeId} {x : AVal} (h : opLen C t s x = some (.val v s)) : opLen C t s' x = some (.val v s') := by
  unfold opLen at h ⊢
  split at h
  · split at h
    · split at h
      · cases h; rfl
      · cases h
    · cases h; rfl
    · split at h
      · cases h; rfl
      · cases h; rfl
      · cases h
    · split at h
      · cases h; rfl
      · split at h
        · rename_i es c hb
          simp only [hk _ _ hb]
          cases h; rfl
        · cases h
      · cases h
    · cases h
  · cases h

theorem qop_keeps (hk : Keeps s s') {o : Op} (hq : active o = false) (ha : isAlloc o = false) (h : qop C o tm s = some (.val v s)) : qop C o tm s' = some (.val v s') := by
  cases hr : quietRead o with
  | false =>
    unfold qop at h ⊢
    rw [aop_pure hq ha hr s s', h]; rfl
  | true =>
    unfold qop at h ⊢
    cases o <;> simp [quietRead] at hr
    · simp only [aop] at h ⊢
      obtain ⟨v1, s1, e, h1⟩ := onlyVal_some h
      cases e
      simp only [aop1] at h1 ⊢
      rw [opLoad_keeps hk h1]; rfl
    · simp only [aop] at h ⊢
      obtain ⟨v1, s1, e, h1⟩ := onlyVal_some h
      cases e
      simp only [aop1] at h1 ⊢
      rw [opLookup_keeps hk h1]; rfl
    · simp only [aop] at h ⊢
      obtain ⟨v1, s1, e, h1⟩ := onlyVal_some h
      cases e
      simp only [aop1] at h1 ⊢
      rw [opEntry_keeps hk h1]; rfl
    · rename_i c
      simp only [aop, opCall] at h ⊢
      split at h
      · rename_i args hargs
        split at h
        · rename_i b hb
          simp only [hb] at hr
          cases b <;> simp at hr
          obtain ⟨v1, s1, e, h1⟩ := onlyVal_some h
          cases e
          simp only [opBuiltin] at h1 ⊢
          split at h1
          · rw [opLen_keeps hk h1]; rfl
          all_goals simp_all
        · rename_i f hf
          simp [hf] at hr
        · cases h
      · cases h
end
end Go.AM

namespace Go.AM
open Go.RowKit
section
variable {C : Cfg} {θ θ' : Th} {base : Nat} {s s' : St} {w : World} {tm tmL : Tr AVal} {nt : Nat} {ts : Array Value} {v : AVal} {ops : Array Oper} {o : Oper} {dep dep' : Nat → Option Nat} {n k : Nat} {bf : List Nat} {done : Nat} {rest : List (Nat × Oper)} {pend : Option Nat} {l : List Nat}

theorem firstQuiet_spec : ∀ {rest : List (Nat × Oper)} {i : Nat} {o : Oper}, firstQuiet bf done rest = some (i, o) → (i, o) ∈ rest ∧ active o.op = false ∧ ∃ b, bf[i]? = some b ∧ ∀ j, b.testBit j = true → done.testBit j = true
  | [], _, _, h => by simp [firstQuiet] at h
  | (i0, o0) :: r, i, o, h => by
    unfold firstQuiet at h
    split at h
    · obtain ⟨h1, h2⟩ := firstQuiet_spec h
      exact ⟨List.mem_cons_of_mem _ h1, h2⟩
    · rename_i ha
      split at h
      · rename_i b hb
        split at h
        · rename_i hc
          cases h
          refine ⟨by simp, ha, b, hb, fun j hj => ?_⟩
          have := of_nbeq hc
          have h2 : (b &&& done).testBit j = true := by rw [this]; exact hj
          rw [Nat.testBit_and, hj] at h2
          simpa using h2
        · obtain ⟨h1, h2⟩ := firstQuiet_spec h
          exact ⟨List.mem_cons_of_mem _ h1, h2⟩
      · cases h
theorem firstQuiet_none : ∀ {rest : List (Nat × Oper)}, firstQuiet bf done rest = none → ∀ i o b, (i, o) ∈ rest → active o.op = false → bf[i]? = some b → (∀ i o, (i, o) ∈ rest → ∃ b, bf[i]? = some b) → ¬ (b &&& done = b)
  | [], _, _, _, _, h, _, _, _ => by simp at h
  | (i0, o0) :: r, h, i, o, b, hm, ha, hb, hall => by
    unfold firstQuiet at h
    split at h
    · rename_i ha0
      rcases List.mem_cons.1 hm with e | hm
      · cases e; rw [ha0] at ha; cases ha
      · exact firstQuiet_none h i o b hm ha hb fun i o hm => hall i o (List.mem_cons_of_mem _ hm)
    · split at h
      · rename_i b0 hb0
        split at h
        · cases h
        · rename_i hc
          rcases List.mem_cons.1 hm with e | hm
          · cases e
            rw [hb] at hb0; cases hb0
            exact of_nbeq_false hc
          · exact firstQuiet_none h i o b hm ha hb fun i o hm => hall i o (List.mem_cons_of_mem _ hm)
      · rename_i hn
        obtain ⟨b', hb'⟩ := hall i0 o0 (by simp)
        rw [hn] at hb'; cases hb'

theorem putD_some {β : Type} {d : Option Tmp} {v : AVal} {kf : Tr AVal → Option β} {r : β} (h : putD tm nt d v none kf = some r) :
    (d = none ∧ kf tm = some r) ∨ ∃ d', d = some d' ∧ d' < nt ∧ kf (tm.set d' v) = some r := by
  unfold putD at h
  split at h
  · rename_i d'
    split at h
    · rename_i hb
      rw [force_eq, Tr.setK_eq] at h
      exact .inr ⟨d', rfl, of_blt hb, h⟩
    · cases h
  · exact .inl ⟨rfl, h⟩

theorem testBit_done (done i j : Nat) : (done ||| 2 ^ i).testBit j = (done.testBit j || decide (i = j)) := by
  rw [Nat.testBit_or, Nat.testBit_two_pow]

theorem DrawR.mem_rest (D : DrawR C θ s dep n tm tmL nt ops bf done rest pend l) {i : Nat} {o : Oper} : (i, o) ∈ rest ↔ ops[i]? = some o ∧ done.testBit i = false ∧ pend ≠ some i := by
  rw [D.rest, List.mem_filter, mem_enum0]
  simp
theorem DrawR.rest_l (D : DrawR C θ s dep n tm tmL nt ops bf done rest pend l) {i : Nat} {o : Oper} (h : (i, o) ∈ rest) : i ∈ l := by
  obtain ⟨h1, h2, _⟩ := D.mem_rest.1 h
  have hlt : i < ops.size := by
    rcases Nat.lt_or_ge i ops.size with q | q
    · exact q
    · rw [Array.getElem?_eq_none q] at h1; cases h1
  exact Classical.byContradiction fun hn => by have := D.dn i hlt hn; rw [h2] at this; cases this

/-- an operation is done here before its turn -/
theorem DrawR.early (D : DrawR C θ s dep n tm tmL nt ops bf done rest none l) {i : Nat} {b : Nat} (hr : (i, o) ∈ rest) (hq : active o.op = false) (hb : bf[i]? = some b) (hen : ∀ j, b.testBit j = true → done.testBit j = true)
    {tm' : Tr AVal} {v : AVal} (hput : (o.dst = none ∧ tm' = tm) ∨ ∃ d, o.dst = some d ∧ d < nt ∧ tm' = tm.set d v)
    {K : Nat → Nat} (hK : ∀ j oj, j ∈ l → done.testBit j = true → ops[j]? = some oj → Prom C θ s' ops tm true dep' n (K j) oj)
    (hinj : ∀ i ∈ l, ∀ j ∈ l, ∀ oi oj, done.testBit i = true → done.testBit j = true → ops[i]? = some oi → ops[j]? = some oj → isAlloc oi.op = true → isAlloc oj.op = true →
      wanted ops tm oi = some true → wanted ops tm oj = some true → K i = K j → i = j)
    (hKi : ∀ j ∈ l, ∀ oj, done.testBit j = true → ops[j]? = some oj → isAlloc o.op = true → isAlloc oj.op = true → wanted ops tm o = some true → wanted ops tm oj = some true → K j ≠ k)
    (hP : (∀ t ∈ opSlots o.op, tm.get t = tm'.get t) → (∀ d, guardSlot ops o = some d → tm.get d = tm'.get d) → (∀ d, o.dst = some d → tm'.get d = some v) → Prom C θ s' ops tm' true dep' n k o) :
    DrawR C θ s' dep' n tm' tmL nt ops bf (done ||| 2 ^ i) (rest.filter fun x => !(Nat.beq x.1 i)) none l := by
  obtain ⟨ho, hnd, _⟩ := D.mem_rest.1 hr
  have hil := D.rest_l hr
  have hbi : b.testBit i = false := by
    cases hc : b.testBit i with
    | false => rfl
    | true => have := hen i hc; rw [hnd] at this; cases this
  -- nothing that is done already looks at what is written
  have hslots : ∀ d, o.dst = some d → ∀ j oj, ops[j]? = some oj → (done.testBit j = true ∨ j = i) → d ∉ opSlots oj.op ∧ guardSlot ops oj ≠ some d := by
    intro d hd j oj hoj hj
    obtain ⟨bj, hbj⟩ := D.ok.ex j oj hoj
    have hno : bj.testBit i = true → False := by
      intro h
      rcases hj with hj | hj
      · have := D.closed j bj hj hbj i h; rw [hnd] at this; cases this
      · subst hj; rw [hb] at hbj; cases hbj; rw [hbi] at h; cases h
    constructor
    · intro hm
      rcases D.ok.slot i o j oj d b bj ho hoj hb hbj hd hm with h1 | ⟨h1, _⟩
      · exact hno h1
      · rw [hq] at h1; cases h1
    · intro hg
      unfold guardSlot at hg
      split at hg
      · cases hg
      · rename_i g y hgd
        split at hg
        · rename_i p hp
          have := D.ok.dst i o g p d ho hp hd hg
          subst this
          exact hno (D.ok.guard j oj bj i y hoj hbj hgd)
        · cases hg
  have hsame : ∀ j oj, ops[j]? = some oj → (done.testBit j = true ∨ j = i) → (∀ t ∈ opSlots oj.op, tm.get t = tm'.get t) ∧ (∀ d, guardSlot ops oj = some d → tm.get d = tm'.get d) := by
    intro j oj hoj hj
    rcases hput with ⟨_, rfl⟩ | ⟨d, hd, _, rfl⟩
    · exact ⟨fun _ _ => rfl, fun _ _ => rfl⟩
    · obtain ⟨h1, h2⟩ := hslots d hd j oj hoj hj
      refine ⟨fun t ht => ?_, fun d' hd' => ?_⟩
      · rw [Tr.get_set, if_neg (by rintro rfl; exact h1 ht)]
      · rw [Tr.get_set, if_neg (by rintro rfl; exact h2 hd')]
  have hother : ∀ d', o.dst ≠ some d' → tm'.get d' = tm.get d' := by
    intro d' hne
    rcases hput with ⟨_, rfl⟩ | ⟨d, hd, _, rfl⟩
    · rfl
    · rw [Tr.get_set, if_neg (by rintro rfl; exact hne hd)]
  have hv : ∀ d, o.dst = some d → tm'.get d = some v := by
    intro d hd
    rcases hput with ⟨h1, _⟩ | ⟨d', hd', _, rfl⟩
    · rw [h1] at hd; cases hd
    · rw [hd] at hd'; cases hd'
      rw [Tr.get_set, if_pos rfl]
  obtain ⟨hsi, hgi⟩ := hsame i o ho (.inr rfl)
  have hPi := hP hsi hgi hv
  have hdone : ∀ j, (done ||| 2 ^ i).testBit j = true → done.testBit j = true ∨ j = i := by
    intro j hj
    rw [testBit_done] at hj
    simp only [Bool.or_eq_true, decide_eq_true_eq] at hj
    exact hj.imp id Eq.symm
  have hmono : ∀ j, done.testBit j = true → (done ||| 2 ^ i).testBit j = true := by
    intro j hj
    rw [testBit_done, hj]; rfl
  refine { ok := D.ok, sched := D.sched, nd := D.nd, lt := D.lt, dn := fun j hj hl => hmono j (D.dn j hj hl), rest := ?_, closed := ?_, bound := ?_, agree := ?_, bits := D.bits, head := fun j e => (by cases e), past := fun j e => (by cases e), proms := ?_ }
  · rw [D.rest, List.filter_filter]
    apply List.filter_congr
    intro x hx
    rw [testBit_done]
    by_cases e : x.1 = i
    · simp [e]
    · have h1 : Nat.beq x.1 i = false := nbeq_false e
      have h2 : decide (i = x.1) = false := by simp; exact fun h => e h.symm
      rw [h1, h2]
      simp
  · intro j bj hj hbj q hqb
    rcases hdone j hj with hj | rfl
    · exact hmono q (D.closed j bj hj hbj q hqb)
    · rw [hb] at hbj; cases hbj
      exact hmono q (hen q hqb)
  · intro j oj d hj hoj hd
    rcases hdone j hj with hj | rfl
    · exact D.bound j oj d hj hoj hd
    · rw [ho] at hoj; cases hoj
      rcases hput with ⟨h1, _⟩ | ⟨d', hd', hlt, _⟩
      · rw [h1] at hd; cases hd
      · rw [hd] at hd'; cases hd'; exact hlt
  · intro d hd
    have hne : o.dst ≠ some d := hd i hil (by rw [testBit_done]; simp) o ho
    rw [hother d hne]
    exact D.agree d fun j hj hdn oj hoj => hd j hj (hmono j hdn) oj hoj
  · refine ⟨fun j => if j = i then k else K j, ?_, ?_⟩
    · intro x hx y hy ox oy hdx hdy hox hoy hax hay hwx hwy he
      replace he : (if x = i then k else K x) = (if y = i then k else K y) := he
      have hwx' : wanted ops tm ox = some true := by
        rw [wanted_congr (hsame x ox hox (hdone x hdx)).2]; exact hwx
      have hwy' : wanted ops tm oy = some true := by
        rw [wanted_congr (hsame y oy hoy (hdone y hdy)).2]; exact hwy
      by_cases ex : x = i
      · by_cases ey : y = i
        · rw [ex, ey]
        · have hdy' := (hdone y hdy).resolve_right ey
          rw [if_pos ex, if_neg ey] at he
          subst ex
          rw [ho] at hox; cases hox
          exact absurd he.symm (hKi y hy oy hdy' hoy hax hay hwx' hwy')
      · have hdx' := (hdone x hdx).resolve_right ex
        by_cases ey : y = i
        · rw [if_neg ex, if_pos ey] at he
          subst ey
          rw [ho] at hoy; cases hoy
          exact absurd he (hKi x hx ox hdx' hox hay hax hwy' hwx')
        · have hdy' := (hdone y hdy).resolve_right ey
          rw [if_neg ex, if_neg ey] at he
          exact hinj x hx y hy ox oy hdx' hdy' hox hoy hax hay hwx' hwy' he
    · intro j hj hdj oj hoj
      by_cases e : j = i
      · subst e
        rw [ho] at hoj; cases hoj
        show Prom C θ s' ops tm' true dep' n (if j = j then k else K j) o
        rw [if_pos rfl]
        exact hPi
      · have hdj' := (hdone j hdj).resolve_right e
        show Prom C θ s' ops tm' true dep' n (if j = i then k else K j) oj
        rw [if_neg e]
        obtain ⟨g1, g2⟩ := hsame j oj hoj (.inl hdj')
        refine (hK j oj hj hdj' hoj).congr g1 g2 fun d hd => ?_
        refine (hother d fun hd' => e ?_).symm
        exact (D.ok.dst i o j oj d ho hoj hd' hd).symm
end
end Go.AM

namespace Go.AM
open Go.RowKit
section
variable {C : Cfg} {θ θ' : Th} {base : Nat} {s s' : St} {w : World} {tm tmL : Tr AVal} {nt : Nat} {ts : Array Value} {v : AVal} {ops : Array Oper} {o : Oper} {dep dep' : Nat → Option Nat} {n k : Nat} {bf : List Nat} {done : Nat} {rest : List (Nat × Oper)} {pend : Option Nat} {l : List Nat}
  {O : Nat → ABlk → Prop} {csT : List Frame} {fr : AFr} {callers : List AFr} {f : Frame} {cs : List Frame} {kk : List AItem}

theorem FrR.draw (F : FrR C θ s dep n fr f) (hm : fr.mode = .run) (ht : fr.todo = .inDraw ops bf done rest pend :: kk) :
    f.mode = .run ∧ ∃ l k' tmL, f.todo = .inRegion ops l :: k' ∧ ItsR θ kk k' ∧ TR θ tmL fr.nt f.tmps ∧ DrawR C θ s dep n fr.tmps tmL fr.nt ops bf done rest pend l := by
  have hb := F.body
  rw [hm] at hb
  simp only at hb
  obtain ⟨h1, h2 | h2⟩ := hb
  · have := h2.2
    rw [ht] at this
    obtain ⟨x, r, _, h3, _⟩ := this
    cases h3
  · obtain ⟨ops', bf', done', rest', pend', k, l, k', tmL, h3, h4, h5, h6, h7⟩ := h2
    rw [ht] at h3
    cases h3
    exact ⟨h1, l, k', tmL, h4, h5, h6, h7⟩
theorem FrR.mkDraw {fr' : AFr} {f' : Frame} (F : FrR C θ s dep n fr f) (hle : θ.le θ') (h1 : fr'.fn = fr.fn) (h2 : fr'.deferred = fr.deferred) (h3 : fr'.roundOf = fr.roundOf) (h4 : fr'.defers = fr.defers) (hm : fr'.mode = .run)
    (g1 : f'.fn = f.fn) (g2 : f'.kind = f.kind) (g3 : f'.roundOf = f.roundOf) (g4 : f'.defers = f.defers) (gm : f'.mode = .run)
    (hb : PlainR θ' fr' f' ∨ DrawFR C θ' s' dep' n fr' f') : FrR C θ' s' dep' n fr' f' := by
  refine ⟨by rw [g1, h1]; exact F.fn, by rw [g2, h2]; exact F.kind, ?_, by rw [g4, h4]; exact F.defs.mono hle, ?_⟩
  · rw [h3, g3, h2]
    have := F.rnd
    split at this
    · exact this
    · obtain ⟨q1, L, q2, q3⟩ := this; exact ⟨q1, L, hle _ _ q2, q3⟩
  · rw [hm]; exact ⟨gm, hb⟩

theorem aop_alloc1 {o : Op} (ha : isAlloc o = true) (h : aop C o tm fr callers s = some (.val v s')) : aop1 C o tm s = some (.val v s') := by
  unfold aop at h
  split at h
  · simp [isAlloc] at ha
  · simp [isAlloc] at ha
  · simp [isAlloc] at ha
  · obtain ⟨v1, s1, e, h1⟩ := onlyVal_some h
    cases e; exact h1
theorem alloc_quiet {o : Op} (ha : isAlloc o = true) : active o = false := by
  cases o <;> simp [isAlloc] at ha <;> rfl

theorem stepDraw_quiet {big : FuncId → List AVal → St → Option (Option (AVal × St))} {i : Nat} {m' : AM} (R : MR C θ base dep O csT ⟨fr, callers, s⟩ f cs w) (hm : fr.mode = .run) (ht : fr.todo = .inDraw ops bf done rest none :: kk)
    (hf : firstQuiet bf done rest = some (i, o)) (h : stepDraw C big fr callers s ops bf done rest kk = some (.one m')) : ∃ dep', MR C θ base dep' O csT m' f cs w := by
  obtain ⟨gm, l, k', tmL, gt, hk, T, D⟩ := R.cur.draw hm ht
  obtain ⟨hr, hq, b, hb, hen⟩ := firstQuiet_spec hf
  obtain ⟨K, k1, k2⟩ := D.proms
  unfold stepDraw at h
  rw [hf] at h
  simp only at h
  -- the end of it
  have fin : ∀ (s' : St) (dep' : Nat → Option Nat) (k : Nat) (v : AVal) (m' : AM), putD fr.tmps fr.nt o.dst v none (fun tm => strictN (done ||| 2 ^ i) fun done => some (SR.one { cur := { fr with tmps := tm, todo := .inDraw ops bf done (rest.filter fun x => !(Nat.beq x.1 i)) none :: kk }, callers, st := s' })) = some (.one m') →
      WR θ C.lo base s'.heap w → CsR C θ s' dep' csT callers cs → (∀ b x, O b x → θ b = none ∧ s'.heap.get b = some x ∧ dep' b = none) →
      (∀ j oj, j ∈ l → done.testBit j = true → ops[j]? = some oj → Prom C θ s' ops fr.tmps true dep' callers.length (K j) oj) →
      (∀ j ∈ l, ∀ oj, done.testBit j = true → ops[j]? = some oj → isAlloc o.op = true → isAlloc oj.op = true → wanted ops fr.tmps o = some true → wanted ops fr.tmps oj = some true → K j ≠ k) →
      (∀ tm', (∀ t ∈ opSlots o.op, fr.tmps.get t = tm'.get t) → (∀ d, guardSlot ops o = some d → fr.tmps.get d = tm'.get d) → (∀ d, o.dst = some d → tm'.get d = some v) → Prom C θ s' ops tm' true dep' callers.length k o) →
      MR C θ base dep' O csT m' f cs w := by
    intro s' dep' k v m' hp hW hcs hout hK hKi hP
    have go : ∀ tm', (o.dst = none ∧ tm' = fr.tmps) ∨ (∃ d, o.dst = some d ∧ d < fr.nt ∧ tm' = fr.tmps.set d v) →
        MR C θ base dep' O csT { cur := { fr with tmps := tm', todo := .inDraw ops bf (done ||| 2 ^ i) (rest.filter fun x => !(Nat.beq x.1 i)) none :: kk }, callers, st := s' } f cs w := by
      intro tm' hput
      have D' := D.early hr hq hb hen hput hK k1 hKi (hP tm')
      exact ⟨hW, R.cur.mkDraw (Th.le_refl _) rfl rfl rfl rfl hm rfl rfl rfl rfl gm (.inr ⟨ops, bf, _, _, none, kk, l, k', tmL, rfl, gt, hk, T, D'⟩), hcs, hout⟩
    rcases putD_some hp with ⟨h1, h2⟩ | ⟨d, h1, h2, h3⟩
    · rw [strictN_eq] at h2
      cases h2
      exact go _ (.inl ⟨h1, rfl⟩)
    · rw [strictN_eq] at h3
      cases h3
      exact go _ (.inr ⟨d, h1, h2, rfl⟩)
  split at h
  · rename_i hw
    split at h
    · rename_i v s' ha
      cases hal : isAlloc o.op with
      | false =>
        have hs : s' = s := by
          have := aop_read (C := C) (tm := fr.tmps) (fr := fr) (callers := callers) hq hal s
          rw [ha] at this
          simp only [setSt] at this
          cases this; rfl
        subst hs
        refine ⟨dep, fin s' dep 0 v m' h R.W R.callers R.out (fun j oj h1 h2 h3 => k2 j h1 h2 oj h3) (fun _ _ _ _ _ e => by rw [hal] at e; cases e) fun tm' t1 t2 t3 => ?_⟩
        refine ⟨hq, .inr ⟨by rw [← wanted_congr t2]; exact hw, v, t3, (fun e => absurd e (by rw [hal]; simp)), fun _ _ => ?_⟩⟩
        unfold qop
        rw [← aop_congr t1, quiet_frame hq (fr' := fr) (callers' := callers)]
        exact ha
      | true =>
        have ha1 := aop_alloc1 hal ha
        obtain ⟨y, g1, g2, g3, g4⟩ := alloc_shape hal ha1
        have hθ := R.W.none_of_new g1
        have hkeep : Keeps s s' := by
          intro b x hx
          rw [g3, Tr.get_set, if_neg]
          · exact hx
          · rintro rfl; rw [g1] at hx; cases hx
        have hne : ∀ b x, s.heap.get b = some x → b ≠ s.next := by rintro b x hx rfl; rw [g1] at hx; cases hx
        refine ⟨fun b => if b = s.next then some callers.length else dep b, fin s' _ s.next v m' h ?_ ?_ ?_ ?_ ?_ ?_⟩
        · rw [g3]; exact R.W.pend hθ y
        · refine R.callers.mono (Th.le_refl _) fun b x n hn h1 h2 h3 => ⟨hkeep b x h3, h1, ?_⟩
          rw [if_neg (hne b x h3)]; exact h2
        · intro b x hO
          obtain ⟨h1, h2, h3⟩ := R.out b x hO
          exact ⟨h1, hkeep b x h2, by rw [if_neg (hne b x h2)]; exact h3⟩
        · intro j oj h1 h2 h3
          refine (k2 j h1 h2 oj h3).mono (fun _ _ x q1 q2 q3 => ⟨hkeep _ x q3, q1, by show (if K j = s.next then _ else _) = _; rw [if_neg (hne _ x q3)]; exact q2⟩) fun _ => ⟨rfl, fun hrd v hv => ?_⟩
          refine qop_keeps hkeep (k2 j h1 h2 oj h3).quiet ?_ hv
          cases hq : isAlloc oj.op with
          | false => rfl
          | true =>
            revert hq hrd
            cases oj.op <;> simp [isAlloc, quietRead]
        · intro j hj oj h2 h3 _ hja _ hjw
          rcases (k2 j hj h2 oj h3).want with ⟨q1, _⟩ | ⟨_, v', _, q2, _⟩
          · rw [hjw] at q1; cases q1
          · obtain ⟨y', s0, s1, p1, p2, p3, p4, p5, p6⟩ := q2 hja
            exact hne _ _ p4
        · intro tm' t1 t2 t3
          refine ⟨hq, .inr ⟨by rw [← wanted_congr t2]; exact hw, v, t3, fun _ => ⟨y, s, s', ?_, rfl, g3, ?_, hθ, ?_⟩, fun e => by rw [hal] at e; cases e⟩⟩
          · rw [← aop1_congr t1]; exact ha1
          · rw [g3, Tr.get_set, if_pos rfl]
          · show (if s.next = s.next then _ else _) = _; rw [if_pos rfl]
    · cases h
  · rename_i hw
    refine ⟨dep, fin s dep 0 (.tuple []) m' h R.W R.callers R.out (fun j oj h1 h2 h3 => k2 j h1 h2 oj h3) (fun _ _ _ _ _ _ _ e => by rw [hw] at e; cases e) fun tm' t1 t2 t3 => ?_⟩
    exact ⟨hq, .inl ⟨by rw [← wanted_congr t2]; exact hw, t3⟩⟩
  · cases h
end
end Go.AM

namespace Go.AM
open Go.RowKit
section
variable {C : Cfg} {θ θ' : Th} {base : Nat} {s s' : St} {w : World} {tm tmL : Tr AVal} {nt : Nat} {ts : Array Value} {v : AVal} {ops : Array Oper} {o : Oper} {dep dep' : Nat → Option Nat} {n k : Nat} {bf : List Nat} {done : Nat} {rest : List (Nat × Oper)} {pend : Option Nat} {l : List Nat}
  {O : Nat → ABlk → Prop} {csT : List Frame} {fr : AFr} {callers : List AFr} {f : Frame} {cs : List Frame} {kk : List AItem}

/-- all that was done here before its turn and that comes next there -/
theorem catch_all (hC : CfgOK C) (hm : fr.mode = .run) (ht : fr.todo = .inDraw ops bf done rest none :: kk) : ∀ (l : List Nat) (θ : Th) (f : Frame) (w : World) (k' : List Item) (tmL : Tr AVal),
    MR C θ base dep O csT ⟨fr, callers, s⟩ f cs w → f.mode = .run → f.todo = .inRegion ops l :: k' → ItsR θ kk k' → TR θ tmL fr.nt f.tmps → DrawR C θ s dep callers.length fr.tmps tmL fr.nt ops bf done rest none l →
    ∃ θ' f' w' l' tmL', Steps C.P (lone f cs w) (lone f' cs w') ∧ MR C θ' base dep O csT ⟨fr, callers, s⟩ f' cs w' ∧ θ.le θ' ∧ Below base w w' ∧ f'.mode = .run ∧ f'.todo = .inRegion ops l' :: k' ∧ ItsR θ' kk k' ∧ TR θ' tmL' fr.nt f'.tmps ∧
      DrawR C θ' s dep callers.length fr.tmps tmL' fr.nt ops bf done rest none l' ∧ (l' = [] ∨ ∃ i r, l' = i :: r ∧ done.testBit i = false) := by
  intro l
  induction l with
  | nil => intro θ f w k' tmL R gm gt hk T D; exact ⟨θ, f, w, [], tmL, Steps.refl _ _, R, Th.le_refl _, Below.refl _ _, gm, gt, hk, T, D, .inl rfl⟩
  | cons x l ih =>
    intro θ f w k' tmL R gm gt hk T D
    cases hx : done.testBit x with
    | false => exact ⟨θ, f, w, x :: l, tmL, Steps.refl _ _, R, Th.le_refl _, Below.refl _ _, gm, gt, hk, T, D, .inr ⟨x, l, rfl, hx⟩⟩
    | true =>
      obtain ⟨θ1, w1, tm1, f1, h1, h2, h3, h4, h5, h6, h7, h8⟩ := D.catch (cs := cs) hC R.W T hx gm gt (.inr trivial)
      have R1 : MR C θ1 base dep O csT ⟨fr, callers, s⟩ f1 cs w1 := by
        refine ⟨h3, R.cur.mkDraw h5 rfl rfl rfl rfl hm (by rw [h2]) (by rw [h2]) (by rw [h2]) (by rw [h2]) (by rw [h2]; exact gm) (.inr ⟨ops, bf, done, rest, none, kk, l, k', tm1, ht, by rw [h2], hk.mono h5, h7, h8⟩), ?_, ?_⟩
        · refine R.callers.mono h5 fun b x n hn g1 g2 g3 => ⟨g3, h6 b g1 ?_, g2⟩
          rw [g2]
          intro e
          have := Option.some.inj e
          have hn' : n < callers.length := hn
          omega
        · intro b x hO
          obtain ⟨g1, g2, g3⟩ := R.out b x hO
          refine ⟨h6 b g1 ?_, g2, g3⟩
          rw [g3]; simp
      obtain ⟨θ2, f2, w2, l2, tm2, q1, q2, q3, q4, q5⟩ := ih θ1 f1 w1 k' tm1 R1 (by rw [h2]; exact gm) (by rw [h2]) (hk.mono h5) h7 h8
      exact ⟨θ2, f2, w2, l2, tm2, Steps.head h1 q1, q2, Th.le_trans h5 q3, h4.trans q4, q5⟩

theorem TR.agree (T : TR θ tmL nt ts) (h : ∀ d, tm.get d = tmL.get d) : TR θ tm nt ts := ⟨T.1, fun d => by rw [h d]; exact T.2 d⟩

theorem DrawR.empty (D : DrawR C θ s dep n tm tmL nt ops bf done rest pend []) : ∀ d, tm.get d = tmL.get d := fun d => D.agree d (by simp)

theorem enum_nodup {α : Type} : ∀ (l : List α) (k : Nat), ((enum k l).map Prod.fst).Nodup ∧ ∀ x ∈ enum k l, k ≤ x.1
  | [], k => ⟨by simp [enum], by simp [enum]⟩
  | a :: l, k => by
    obtain ⟨h1, h2⟩ := enum_nodup l (k + 1)
    refine ⟨?_, ?_⟩
    · simp only [enum, List.map_cons]
      refine List.nodup_cons.2 ⟨?_, h1⟩
      intro hm
      obtain ⟨x, hx, e⟩ := List.mem_map.1 hm
      have := h2 x hx
      omega
    · intro x hx
      simp only [enum] at hx
      rcases List.mem_cons.1 hx with rfl | hx
      · exact Nat.le_refl _
      · have := h2 x hx; omega
theorem filter_cons_key {l : List (Nat × Oper)} {p : Nat × Oper → Bool} {i : Nat} {o : Oper} {r : List (Nat × Oper)} (hn : (l.map Prod.fst).Nodup) (h : (i, o) :: r = l.filter p) : r = l.filter fun x => p x && !(some i == some x.1) := by
  have h1 : l.filter (fun x => p x && !(some i == some x.1)) = (l.filter p).filter fun x => !(some i == some x.1) := by
    rw [List.filter_filter]
    apply List.filter_congr
    intro x _
    rw [Bool.and_comm]
  rw [h1, ← h, List.filter_cons]
  simp only [beq_self_eq_true, Bool.not_true, Bool.false_eq_true, if_false]
  have hn2 : (((i, o) :: r).map Prod.fst).Nodup := by rw [h]; exact (List.filter_sublist.map _).nodup hn
  rw [List.map_cons, List.nodup_cons] at hn2
  symm
  rw [List.filter_eq_self]
  intro x hx
  have : i ≠ x.1 := fun e => hn2.1 (by rw [e]; exact List.mem_map.2 ⟨x, hx, rfl⟩)
  simp [this]

/-- the machine comes to an operation that acts: it is the one that is next here too -/
theorem DrawR.next {x : Nat} {l' : List Nat} (D : DrawR C θ s dep n tm tmL nt ops bf done rest none (x :: l')) (hx : done.testBit x = false) (hf : firstQuiet bf done rest = none) {i : Nat} {r : List (Nat × Oper)} {b : Nat} (hr : rest = (i, o) :: r)
    (hb : bf[i]? = some b) (hall : (r.all fun x => !(active x.2.op) || (match bf[x.1]? with | some w => w.testBit i | none => false)) = true) :
    x = i ∧ active o.op = true ∧ DrawR C θ s dep n tm tmL nt ops bf done r (some i) (x :: l') := by
  have hlt := D.lt x (by simp)
  have hox : ops[x]? = some ops[x] := Array.getElem?_eq_getElem hlt
  generalize ops[x] = ox at hox
  obtain ⟨bx, hbx⟩ := D.ok.ex x ox hox
  have hmx : (x, ox) ∈ rest := D.mem_rest.2 ⟨hox, hx, by simp⟩
  have hin : ∀ j, bx.testBit j = true → done.testBit j = true := by
    intro j hj
    refine D.dn j ?_ (D.sched [] x l' rfl bx hbx j hj)
    have := D.bits x bx hbx j hj
    omega
  have hand : bx &&& done = bx := by
    apply Nat.eq_of_testBit_eq
    intro j
    rw [Nat.testBit_and]
    cases h : bx.testBit j with
    | false => rfl
    | true => rw [hin j h]; rfl
  have hex : ∀ i o, (i, o) ∈ rest → ∃ b, bf[i]? = some b := fun i o h => D.ok.ex i o (D.mem_rest.1 h).1
  have hax : active ox.op = true := by
    cases h : active ox.op with
    | true => rfl
    | false => exact absurd hand (firstQuiet_none hf x ox bx hmx h hbx hex)
  have hxi : x = i := by
    rw [hr] at hmx
    rcases List.mem_cons.1 hmx with e | hmr
    · cases e; rfl
    · have h1 := List.all_eq_true.1 hall _ hmr
      simp only [hax, Bool.not_true, Bool.false_or, hbx] at h1
      have h2 : i ∈ x :: l' := D.rest_l (o := o) (by rw [hr]; simp)
      exact absurd h2 (D.sched [] x l' rfl bx hbx i h1)
  subst hxi
  have ho : ops[x]? = some o := (D.mem_rest.1 (show (x, o) ∈ rest by rw [hr]; simp)).1
  rw [hox] at ho; cases ho
  obtain ⟨K, k1, k2⟩ := D.proms
  refine ⟨rfl, hax, { D with rest := ?_, head := fun j e _ => ?_, past := fun j e h => ?_, proms := ⟨K, k1, fun i hi hd o ho => (k2 i hi hd o ho).mono (fun _ _ x g1 g2 g3 => ⟨g3, g1, g2⟩) fun e => by cases e⟩ }⟩
  · have := D.rest
    rw [hr] at this
    have h2 := filter_cons_key (enum_nodup ops.toList 0).1 this
    rw [h2]
    apply List.filter_congr
    intro y _
    simp
  · cases e; exact ⟨l', rfl⟩
  · cases e; rw [hx] at h; cases h
end
end Go.AM

namespace Go.AM
open Go.RowKit
section
variable {C : Cfg} {θ θ' : Th} {base : Nat} {s s' : St} {w : World} {tm tmL : Tr AVal} {nt : Nat} {ts : Array Value} {v : AVal} {v' : Value} {ops : Array Oper} {o : Oper} {dep dep' : Nat → Option Nat} {n k : Nat} {bf : List Nat} {done : Nat} {rest : List (Nat × Oper)} {pend : Option Nat} {l : List Nat}
  {O : Nat → ABlk → Prop} {csT : List Frame} {fr : AFr} {callers : List AFr} {f : Frame} {cs : List Frame} {kk : List AItem}

theorem FrR.plain (F : FrR C θ s dep n fr f) (hm : fr.mode = .run) (ht : ∀ ops bf done rest pend k, fr.todo ≠ .inDraw ops bf done rest pend :: k) : f.mode = .run ∧ TR θ fr.tmps fr.nt f.tmps ∧ ItsR θ fr.todo f.todo := by
  have hb := F.body
  rw [hm] at hb
  simp only at hb
  obtain ⟨h1, h2 | h2⟩ := hb
  · exact ⟨h1, h2.1, h2.2⟩
  · obtain ⟨ops', bf', done', rest', pend', k, l, k', tmL, h3, h4⟩ := h2
    exact absurd h3 (ht _ _ _ _ _ _)

/-- the operation that was waited for has come to its end -/
theorem DrawR.finish {i : Nat} (D : DrawR C θ s dep n tm tmL nt ops bf done rest (some i) (i :: l)) (hi : done.testBit i = false) (ho : ops[i]? = some o) {tm' tmL' : Tr AVal} {v : AVal}
    (hput : (o.dst = none ∧ tm' = tm ∧ tmL' = tmL) ∨ ∃ d, o.dst = some d ∧ d < nt ∧ tm' = tm.set d v ∧ tmL' = tmL.set d v) :
    DrawR C θ s dep n tm' tmL' nt ops bf (done ||| 2 ^ i) rest (some i) l := by
  obtain ⟨b, hb⟩ := D.ok.ex i o ho
  have hs := D.sched [] i l rfl b hb
  obtain ⟨K, k1, k2⟩ := D.proms
  have hnl : i ∉ l := (List.nodup_cons.1 D.nd).1
  have hdone : ∀ j, (done ||| 2 ^ i).testBit j = true → done.testBit j = true ∨ j = i := by
    intro j hj
    rw [testBit_done] at hj
    simp only [Bool.or_eq_true, decide_eq_true_eq] at hj
    exact hj.imp id Eq.symm
  have hmono : ∀ j, done.testBit j = true → (done ||| 2 ^ i).testBit j = true := by
    intro j hj
    rw [testBit_done, hj]; rfl
  have hother : ∀ d', o.dst ≠ some d' → tm'.get d' = tm.get d' ∧ tmL'.get d' = tmL.get d' := by
    intro d' hne
    rcases hput with ⟨_, rfl, rfl⟩ | ⟨d, hd, _, rfl, rfl⟩
    · exact ⟨rfl, rfl⟩
    · rw [Tr.get_set, if_neg (by rintro rfl; exact hne hd), Tr.get_set, if_neg (by rintro rfl; exact hne hd)]
      exact ⟨rfl, rfl⟩
  have hsame : ∀ j oj, ops[j]? = some oj → done.testBit j = true → j ∈ l → (∀ t ∈ opSlots oj.op, tm.get t = tm'.get t) ∧ (∀ d, guardSlot ops oj = some d → tm.get d = tm'.get d) := by
    intro j oj hoj hj hjl
    obtain ⟨bj, hbj⟩ := D.ok.ex j oj hoj
    have hno : bj.testBit i = true → False := fun h => by have := D.closed j bj hj hbj i h; rw [hi] at this; cases this
    constructor
    · intro t ht
      refine (hother t fun hd => ?_).1.symm
      rcases D.ok.slot i o j oj t b bj ho hoj hb hbj hd ht with h1 | ⟨_, h1 | h1⟩
      · exact hno h1
      · rw [h1] at hnl; exact hnl hjl
      · exact hs j h1 (by simp [hjl])
    · intro d hg
      refine (hother d fun hd => ?_).1.symm
      unfold guardSlot at hg
      split at hg
      · cases hg
      · rename_i g y hgd
        split at hg
        · rename_i p hp
          have := D.ok.dst i o g p d ho hp hd hg
          subst this
          exact hno (D.ok.guard j oj bj i y hoj hbj hgd)
        · cases hg
  refine { ok := D.ok, sched := D.sched.tail, nd := (List.nodup_cons.1 D.nd).2, lt := fun x hx => D.lt x (by simp [hx]), dn := ?_, rest := ?_, closed := ?_, bound := ?_, agree := ?_, bits := D.bits, head := ?_, past := ?_, proms := ?_ }
  · intro j hj hl
    by_cases e : j = i
    · rw [e, testBit_done]; simp
    · exact hmono j (D.dn j hj (by simp [e, hl]))
  · rw [D.rest]
    apply List.filter_congr
    intro x _
    rw [testBit_done]
    by_cases e : i = x.1
    · simp [e]
    · simp [e]
  · intro j bj hj hbj q hq
    rcases hdone j hj with hj | rfl
    · exact hmono q (D.closed j bj hj hbj q hq)
    · rw [hb] at hbj; cases hbj
      refine hmono q (D.dn q ?_ (hs q hq))
      have := D.bits j b hb q hq
      have := D.lt j (by simp)
      omega
  · intro j oj d hj hoj hd
    rcases hdone j hj with hj | rfl
    · exact D.bound j oj d hj hoj hd
    · rw [ho] at hoj; cases hoj
      rcases hput with ⟨h1, _⟩ | ⟨d', hd', hlt, _⟩
      · rw [h1] at hd; cases hd
      · rw [hd] at hd'; cases hd'; exact hlt
  · intro d hd
    by_cases e : o.dst = some d
    · rcases hput with ⟨h1, _⟩ | ⟨d', hd', _, rfl, rfl⟩
      · rw [h1] at e; cases e
      · rw [e] at hd'; cases hd'
        rw [Tr.get_set, if_pos rfl, Tr.get_set, if_pos rfl]
    · rw [(hother d e).1, (hother d e).2]
      refine D.agree d fun j hj hdn oj hoj => ?_
      rcases List.mem_cons.1 hj with rfl | hj
      · rw [ho] at hoj; cases hoj; exact e
      · exact hd j hj (hmono j hdn) oj hoj
  · intro j e hdj
    cases e
    rw [testBit_done] at hdj
    simp at hdj
  · intro j e _
    cases e
    refine ⟨hnl, fun b' hb' j hj => ?_⟩
    rw [hb] at hb'; cases hb'
    cases h : b.testBit j with
    | false => rfl
    | true => exact absurd (by simp [hj]) (hs j h)
  · have hl : ∀ j, j ∈ l → (done ||| 2 ^ i).testBit j = true → done.testBit j = true := fun j hj hd => (hdone j hd).resolve_right (by rintro rfl; exact hnl hj)
    refine ⟨K, fun x hx y hy ox oy hdx hdy hox hoy hax hay hwx hwy he => ?_, fun j hj hdj oj hoj => ?_⟩
    · refine k1 x (by simp [hx]) y (by simp [hy]) ox oy (hl x hx hdx) (hl y hy hdy) hox hoy hax hay ?_ ?_ he
      · rw [wanted_congr (hsame x ox hox (hl x hx hdx) hx).2]; exact hwx
      · rw [wanted_congr (hsame y oy hoy (hl y hy hdy) hy).2]; exact hwy
    · obtain ⟨g1, g2⟩ := hsame j oj hoj (hl j hj hdj) hj
      refine (k2 j (by simp [hj]) (hl j hj hdj) oj hoj).congr g1 g2 fun d hd => (hother d fun hd' => ?_).1.symm
      have := D.ok.dst i o j oj d ho hoj hd' hd
      rw [this] at hnl; exact hnl hj

theorem finish_sound {β : Type} {kf : AFr → Option β} {r : β} (F : FrR C θ s dep n fr f) (hm : fr.mode = .run) (hw : Waits fr) (hv : VR θ v v') (h : AM.finish fr v none kf = some r) :
    ∃ a2, kf a2 = some r ∧ FrR C θ s dep n a2 (f.finish v') := by
  unfold AM.finish at h
  split at h
  · -- a region in the order of the text
    rename_i ops o rest t ht
    obtain ⟨gm, T, I⟩ := F.plain hm (by rw [ht]; intro _ _ _ _ _ _ e; cases e)
    rw [ht] at I
    obtain ⟨x, k', e1, e2, e3⟩ := I
    cases e2 with
    | inReg _ _ l hl =>
      cases l with
      | nil => simp at hl
      | cons i l =>
        simp only [List.map_cons, List.cons.injEq] at hl
        rw [finish_region e1 hl.1]
        rcases putD_some h with ⟨h1, h2⟩ | ⟨d, h1, h2, h3⟩
        · exact ⟨_, h2, F.mkDraw (Th.le_refl _) rfl rfl rfl rfl hm rfl rfl rfl rfl gm (.inl ⟨by rw [h1]; exact T, .cons (.inReg _ _ _ hl.2) e3⟩)⟩
        · exact ⟨_, h3, F.mkDraw (Th.le_refl _) rfl rfl rfl rfl hm rfl rfl rfl rfl gm (.inl ⟨by rw [h1]; exact T.set h2 hv, .cons (.inReg _ _ _ hl.2) e3⟩)⟩
  · -- one in an order of its own
    rename_i ops bf done rest i t ht
    obtain ⟨gm, l, k', tmL, gt, hk, T, D⟩ := F.draw hm ht
    obtain ⟨j, e, hj⟩ := hw _ _ _ _ _ _ ht
    cases e
    obtain ⟨l', hl⟩ := D.head i rfl hj
    subst hl
    split at h
    · rename_i o ho
      rw [finish_region gt ho]
      rcases putD_some h with ⟨h1, h2⟩ | ⟨d, h1, h2, h3⟩
      · rw [strictN_eq] at h2
        refine ⟨_, h2, F.mkDraw (Th.le_refl _) rfl rfl rfl rfl hm rfl rfl rfl rfl gm (.inr ⟨ops, bf, _, rest, some i, t, l', k', tmL, rfl, rfl, hk, by rw [h1]; exact T, ?_⟩)⟩
        exact D.finish (v := v) hj ho (.inl ⟨h1, rfl, rfl⟩)
      · rw [strictN_eq] at h3
        refine ⟨_, h3, F.mkDraw (Th.le_refl _) rfl rfl rfl rfl hm rfl rfl rfl rfl gm (.inr ⟨ops, bf, _, rest, some i, t, l', k', tmL.set d v, rfl, rfl, hk, by rw [h1]; exact T.set h2 hv, ?_⟩)⟩
        exact D.finish hj ho (.inr ⟨d, h1, h2, rfl, rfl⟩)
    · cases h
  · rename_i lp t ht
    obtain ⟨gm, T, I⟩ := F.plain hm (by rw [ht]; intro _ _ _ _ _ _ e; cases e)
    rw [ht] at I
    obtain ⟨x, k', e1, e2, e3⟩ := I
    cases e2 with
    | inRange _ L hL =>
      have hf : f.finish v' = { f with todo := .endRangeFunc L.cb :: k' } := by unfold Frame.finish; rw [e1]
      rw [hf]
      exact ⟨_, h, F.mkDraw (Th.le_refl _) rfl rfl rfl rfl hm rfl rfl rfl rfl gm (.inl ⟨T, .cons (.endRange _ _ hL) e3⟩)⟩
  · rename_i t ht
    obtain ⟨gm, T, I⟩ := F.plain hm (by rw [ht]; intro _ _ _ _ _ _ e; cases e)
    rw [ht] at I
    obtain ⟨x, k', e1, e2, e3⟩ := I
    cases e2 with
    | beginRound =>
      have hf : f.finish v' = { f with todo := k' } := by unfold Frame.finish; rw [e1]
      rw [hf]
      exact ⟨_, h, F.mkDraw (Th.le_refl _) rfl rfl rfl rfl hm rfl rfl rfl rfl gm (.inl ⟨T, e3⟩)⟩
  · cases h
end
end Go.AM

namespace Go.AM
open Go.RowKit
section
variable (C : Cfg)
def OneOK (M0 : Machine) (θ : Th) (base : Nat) (O : Nat → ABlk → Prop) (csT : List Frame) (w0 : World) (m : AM) : Prop :=
  ∃ θ' dep' f' cs' w', Steps C.P M0 (lone f' cs' w') ∧ MR C θ' base dep' O csT m f' cs' w' ∧ θ.le θ' ∧ Below base w0 w'
def SRok (M0 : Machine) (θ : Th) (base : Nat) (O : Nat → ABlk → Prop) (csT : List Frame) (w0 : World) : SR → Prop
  | .one m => OneOK C M0 θ base O csT w0 m
  | .many ms => ∃ m ∈ ms, OneOK C M0 θ base O csT w0 m
  | .done g v s => ∃ θ' f' w' v', Steps C.P M0 (lone f' csT w') ∧ f'.leaving C.P w' (.returned v') ∧ f'.fn = g ∧ VR θ' v v' ∧ WR θ' C.lo base s.heap w' ∧ θ.le θ' ∧ Below base w0 w' ∧ ∀ b x, O b x → θ' b = none ∧ s.heap.get b = some x
/-- what is taken for one step is right -/
def BigOK (big : FuncId → List AVal → St → Option (Option (AVal × St))) : Prop := ∀ f args s v s', big f args s = some (some (v, s')) →
  ∀ θ base w (args' : Array Value), WR θ C.lo base s.heap w → VRs θ args args'.toList → ∀ cs, ∃ θ' w' fr' v', Steps C.P (lone (Frame.enter C.P f args' .normal) cs w) (lone fr' cs w') ∧ fr'.leaving C.P w' (.returned v') ∧ VR θ' v v' ∧
    WR θ' C.lo base s'.heap w' ∧ Ext θ θ' base s.heap s'.heap w w'
end

section
variable {C : Cfg} {θ θ' : Th} {base : Nat} {s s' : St} {w w1 : World} {tm tmL : Tr AVal} {nt : Nat} {ts : Array Value} {v : AVal} {v' : Value} {ops : Array Oper} {o : Oper} {dep dep' : Nat → Option Nat} {n k : Nat} {bf : List Nat} {done : Nat} {rest : List (Nat × Oper)} {pend : Option Nat} {l : List Nat}
  {O : Nat → ABlk → Prop} {csT : List Frame} {fr fr1 : AFr} {callers : List AFr} {f : Frame} {cs : List Frame} {kk : List AItem} {big : FuncId → List AVal → St → Option (Option (AVal × St))} {M0 : Machine} {w0 : World}

theorem FrR.ext {h' : World} (F : FrR C θ s dep n fr f) (E : Ext θ θ' base s.heap s'.heap w h') (hw : Waits fr) : FrR C θ' s' dep n fr f :=
  F.mono E.le (fun b x h1 h2 h3 => ⟨(E.pend b x h1 h3).1, (E.pend b x h1 h3).2, h2⟩) (.inl (.inl hw))
theorem CsR.ext {as : List AFr} (F : CsR C θ s dep csT as cs) (E : Ext θ θ' base s.heap s'.heap w w1) : CsR C θ' s' dep csT as cs :=
  F.mono E.le (fun b x _ _ h1 h2 h3 => ⟨(E.pend b x h1 h3).1, (E.pend b x h1 h3).2, h2⟩)
theorem out_ext {h h' : Tr ABlk} (hO : ∀ b x, O b x → θ b = none ∧ h.get b = some x ∧ dep b = none) (E : Ext θ θ' base h h' w w1) : ∀ b x, O b x → θ' b = none ∧ h'.get b = some x ∧ dep b = none :=
  fun b x hb => let ⟨h1, h2, h3⟩ := hO b x hb; ⟨(E.pend b x h1 h2).2, (E.pend b x h1 h2).1, h3⟩

theorem enterFr_some {β : Type} {g : FuncId} {args : List AVal} {dfd : Bool} {kf : AFr → Option β} {r : β} (h : enterFr C g args dfd none kf = some r) :
    ∃ fn c, C.fns.get g = some fn ∧ fn.body = some c ∧ kf { fn := g, tmps := Tr.leaf.setL 0 args, nt := args.length + (fn.ntmps - args.length), todo := [.code c], defers := [], mode := .run, deferred := dfd, roundOf := none } = some r := by
  unfold enterFr at h
  split at h
  · rename_i fn hf
    split at h
    · rename_i c hc
      rw [Tr.setList_eq] at h
      exact ⟨fn, c, hf, hc, h⟩
    · cases h
  · cases h
theorem FrR.enter (hC : CfgOK C) {g : FuncId} {args : List AVal} {args' : Array Value} {fn : Func} {c : Code} {dfd : Bool} (hf : C.fns.get g = some fn) (hc : fn.body = some c) (hv : VRs θ args args'.toList) :
    FrR C θ s dep n { fn := g, tmps := Tr.leaf.setL 0 args, nt := args.length + (fn.ntmps - args.length), todo := [.code c], defers := [], mode := .run, deferred := dfd, roundOf := none } (Frame.enter C.P g args' (if dfd then .deferred else .normal)) := by
  have h1 := hC.fns _ _ hf
  have hl : args.length = args'.size := hv.length
  refine ⟨rfl, rfl, rfl, rfl, rfl, .inl ⟨⟨?_, fun d => ?_⟩, ?_⟩⟩
  · simp [Frame.enter, h1, hl]
  · show VR θ (((Tr.leaf.setL 0 args).get d).getD (.tuple [])) ((Frame.enter C.P g args' _).tmps.getD d Go.undef)
    rw [Tr.get_setL]
    simp only [Frame.enter, h1, Option.map_some, Option.getD_some]
    by_cases hd : d < args.length
    · rw [if_pos (by omega), Nat.sub_zero]
      obtain ⟨u, g1, g2⟩ := hv.get d _ (List.getElem?_eq_getElem hd)
      rw [List.getElem?_eq_getElem hd, Array.getD_eq_getD_getElem?, Array.getElem?_append_left (by omega)]
      rw [Array.getElem?_toList] at g1
      rw [g1]
      exact g2
    · rw [if_neg (by omega), Tr.get_leaf, Array.getD_eq_getD_getElem?, Array.getElem?_append_right (by omega)]
      have : ((Array.replicate (fn.ntmps - args'.size) Go.undef)[d - args'.size]?).getD Go.undef = Go.undef := by
        rw [Array.getElem?_replicate]
        split <;> rfl
      rw [this]
      exact VR.uv
  · show ItsR θ [.code c] [.code _]
    rw [h1]
    simp only [Option.bind_some, hc, Option.getD_some]
    exact .cons (.code c) rfl

theorem applyOut_sound (hC : CfgOK C) (hbig : BigOK C big) {out : Out} {x : Sem Next} {sr : SR} {fra : AFr} (R : MR C θ base dep O csT ⟨fr, callers, s⟩ f cs w) (hm : fr.mode = .run) (hw : Waits fr) (h0 : ∀ w', Below base w w' → Below base w0 w')
    (ha1 : fra.roundOf = fr.roundOf) (ha2 : fra.deferred = fr.deferred)
    (hx : OutOK C.P θ C.lo base s.heap w x fra callers out)
    (hst : ∀ fr' cs' w', (stepG.apply C.P true f cs none x w).bare = .go { frame := fr', callers := cs', status := .running, dying := none } w' → Steps C.P M0 (lone fr' cs' w'))
    (hnc : ∀ d s a k, f.todo ≠ .call d true s a :: k)
    (h : applyOut C big fr callers (some out) = some sr) : SRok C M0 θ base O csT w0 sr := by
  -- a value comes
  have fin : ∀ (θ' : Th) (w' w2 : World) (s' : St) (v : AVal) (v' : Value) (m' : AM), Steps C.P M0 (lone (f.finish v') cs w2) → VR θ' v v' → WR θ' C.lo base s'.heap w2 → Ext θ θ' base s.heap s'.heap w w2 →
      AM.finish fr v none (fun fr => some ({ cur := fr, callers, st := s' } : AM)) = some m' → OneOK C M0 θ base O csT w0 m' := by
    intro θ' w' w2 s' v v' m' hs hv hW hE hf
    obtain ⟨a2, g1, g2⟩ := finish_sound (R.cur.ext hE hw) hm hw hv hf
    cases g1
    exact ⟨θ', dep, _, cs, w2, hs, ⟨hW, g2, R.callers.ext hE, out_ext R.out hE⟩, hE.le, h0 _ hE.below⟩
  have fin1 : ∀ (θ' : Th) (w2 : World) (s' : St) (v : AVal) (v' : Value), Steps C.P M0 (lone (f.finish v') cs w2) → VR θ' v v' → WR θ' C.lo base s'.heap w2 → Ext θ θ' base s.heap s'.heap w w2 →
      AM.finish fr v none (fun fr => some (SR.one { cur := fr, callers, st := s' })) = some sr → SRok C M0 θ base O csT w0 sr := by
    intro θ' w2 s' v v' hs hv hW hE hf
    obtain ⟨a2, g1, g2⟩ := finish_sound (R.cur.ext hE hw) hm hw hv hf
    cases g1
    exact ⟨θ', dep, _, cs, w2, hs, ⟨hW, g2, R.callers.ext hE, out_ext R.out hE⟩, hE.le, h0 _ hE.below⟩
  unfold applyOut at h
  cases out with
  | val v s' =>
    obtain ⟨θ', w', nx, h1, h2, h3, h4⟩ := hx
    rcases h2 with (⟨v', rfl, hv⟩ | ⟨rfl, rfl⟩) | ⟨rfl, rfl, hr, hd, c, rest, hcs, hcm⟩
    · exact fin1 θ' w' s' v v' (hst _ _ _ (ap_value h1)) hv h3 h4 h
    · exact fin1 θ' w' s' _ Go.undef (hst _ _ _ (ap_skip h1)) VR.uv h3 h4 h
    · -- recover, where nothing is to be recovered
      refine fin1 θ' w' s' _ .nilIface (hst _ _ _ (ap_recover h1 ?_ ?_)) (by simp only [VR]) h3 h4 h
      · have := R.cur.rnd
        rw [show (AM.cur ⟨fr, callers, s⟩) = fr from rfl, ← ha1, hr] at this
        exact this
      · have hk := R.cur.kind
        rw [show (AM.cur ⟨fr, callers, s⟩) = fr from rfl, ← ha2, hd] at hk
        have hc := R.callers
        rw [show (AM.callers ⟨fr, callers, s⟩) = callers from rfl, hcs] at hc
        obtain ⟨c', r', e1, e2, _⟩ := hc
        have hb := e2.body
        rw [hcm] at hb
        unfold tryRecover
        rw [hk, e1]
        simp only [if_true]
        rw [hb.1]
  | enter g args s' =>
    obtain ⟨θ', w', nx, h1, ⟨args', rfl, hv⟩, h3, h4⟩ := hx
    have hE := hst _ _ _ (ap_enter h1 hnc)
    simp only at h
    split at h
    · obtain ⟨fn, c, g1, g2, g3⟩ := enterFr_some h
      cases g3
      refine ⟨θ', dep, _, f :: cs, w', hE, ⟨h3, FrR.enter hC (dfd := false) g1 g2 hv, ⟨f, cs, rfl, R.cur.ext h4 hw, .inl hw, R.callers.ext h4⟩, out_ext R.out h4⟩, h4.le, h0 _ h4.below⟩
    · rename_i v s'' hb
      obtain ⟨θ2, w2, fr', v', k1, k2, k3, k4, k5⟩ := hbig _ _ _ _ _ hb θ' base w' args' h3 hv (f :: cs)
      have hs2 := step_leave_returned (c := f) (cs := cs) k2
      have hEx : Ext θ θ2 base s.heap s''.heap w w2 := h4.trans k5
      exact fin1 θ2 w2 s'' v v' ((hE.trans k1).trans (.one hs2)) k3 k4 hEx h
    · cases h
  | round lp g tm nt a b s' =>
    obtain ⟨θ', w', nx, h1, ⟨L, ts, g1, rfl, T⟩, h3, h4⟩ := hx
    cases h
    refine ⟨θ', dep, _, f :: cs, w', hst _ _ _ (ap_round h1), ⟨h3, ⟨rfl, rfl, ⟨rfl, L, g1, rfl⟩, rfl, rfl, .inl ⟨T, .cons (.code a) (.cons .beginRound (.cons (.code b) rfl))⟩⟩, ⟨f, cs, rfl, R.cur.ext h4 hw, .inl hw, R.callers.ext h4⟩, out_ext R.out h4⟩, h4.le, h0 _ h4.below⟩
  | defer d s' =>
    obtain ⟨θ', w', nx, h1, ⟨d', rfl, hd⟩, h3, h4⟩ := hx
    simp only at h
    split at h
    · cases h
    · have F := R.cur.ext h4 hw
      have F2 : FrR C θ' s' dep callers.length { fr with defers := d :: fr.defers } { f with defers := d' :: f.defers } := by
        refine ⟨F.fn, F.kind, F.rnd, ⟨d', _, rfl, hd, F.defs⟩, ?_⟩
        have := F.body
        rw [show (AM.cur ⟨fr, callers, s⟩) = fr from rfl, hm] at this
        rw [show ({ fr with defers := d :: fr.defers } : AFr).mode = fr.mode from rfl, hm]
        exact this
      obtain ⟨a2, g1, g2⟩ := finish_sound (v' := Go.undef) F2 hm hw VR.uv h
      cases g1
      exact ⟨θ', dep, _, cs, w', hst _ _ _ (ap_defer h1), ⟨h3, g2, R.callers.ext h4, out_ext R.out h4⟩, h4.le, h0 _ h4.below⟩
  | many ls =>
    obtain ⟨p, hp, θ', w', nx, h1, h2, h3, h4⟩ := hx
    simp only at h
    split at h
    · rename_i ms hms
      cases h
      have key : ∀ (ls : List (AVal × St)) (ms : List AM), finishAll fr callers ls = some ms → ∀ p ∈ ls, ∃ m ∈ ms, AM.finish fr p.1 none (fun fr => some ({ cur := fr, callers, st := p.2 } : AM)) = some m := by
        intro ls
        induction ls with
        | nil => intro ms _ p hp; simp at hp
        | cons q ls ih =>
          intro ms h p hp
          obtain ⟨qv, qs⟩ := q
          simp only [finishAll] at h
          split at h
          · rename_i m hm'
            split at h
            · rename_i l hl
              cases h
              rcases List.mem_cons.1 hp with rfl | hp
              · exact ⟨m, by simp, hm'⟩
              · obtain ⟨m2, h1, h2⟩ := ih l hl p hp
                exact ⟨m2, by simp [h1], h2⟩
            · cases h
          · cases h
      obtain ⟨m, hm1, hm2⟩ := key ls ms hms p hp
      refine ⟨m, hm1, ?_⟩
      rcases h2 with ⟨v', rfl, hv⟩ | ⟨rfl, hv⟩
      · exact fin θ' w' w' p.2 p.1 v' m (hst _ _ _ (ap_value h1)) hv h3 h4 hm2
      · exact fin θ' w' w' p.2 p.1 Go.undef m (hst _ _ _ (ap_skip h1)) (by rw [hv]; exact VR.uv) h3 h4 hm2
    · cases h
end
end Go.AM

namespace Go.AM
open Go.RowKit
theorem listBeq_eq {α : Type} {g : α → α → Bool} (hg : ∀ x y, g x y = true → x = y) : ∀ {l r : List α}, listBeq g l r = true → l = r
  | [], [], _ => rfl
  | [], _ :: _, h => by simp [listBeq] at h
  | _ :: _, [], h => by simp [listBeq] at h
  | a :: l, b :: r, h => by
    simp only [listBeq] at h
    split at h
    · rename_i h1
      rw [hg a b h1, listBeq_eq hg h]
    · cases h
theorem beqV_eq : ∀ (n : Nat) (a b : AVal), beqV n a b = true → a = b
  | 0, _, _, h => by simp [beqV] at h
  | n + 1, a, b, h => by
    unfold beqV at h
    split at h
    · rename_i x y
      cases x <;> cases y <;> simp at h <;> rfl
    · split at h
      · rename_i hk
        rw [kindBeq_eq hk]
        rw [intBeq_eq] at h
        simp at h
        rw [h]
      · cases h
    · rw [listBeq_eq (fun x y h => of_nbeq h) h]
    · rfl
    · split at h
      · rename_i h1
        rw [of_nbeq h1, of_nbeq h]
      · cases h
    · rfl
    · simp only [Bool.and_eq_true] at h
      obtain ⟨⟨⟨⟨h1, h2⟩, h3⟩, h4⟩, h5⟩ := h
      rw [of_nbeq h1, of_nbeq h2, of_nbeq h3, of_nbeq h4, of_nbeq h5]
    · rfl
    · rw [of_nbeq h]
    · rfl
    · simp only [Bool.and_eq_true] at h
      obtain ⟨⟨h1, h2⟩, h3⟩ := h
      rw [of_nbeq h1, listBeq_eq (beqV_eq n) h2, listBeq_eq (beqV_eq n) h3]
    · rw [of_nbeq h]
    · rfl
    · simp only [Bool.and_eq_true] at h
      rw [of_nbeq h.1, beqV_eq n _ _ h.2]
    · rw [listBeq_eq (beqV_eq n) h]
    · rw [listBeq_eq (beqV_eq n) h]
    · cases h

section
variable {C : Cfg} {θ θ' : Th} {base : Nat} {s s' : St} {w w1 : World} {tm tmL : Tr AVal} {nt : Nat} {ts : Array Value} {v : AVal} {v' : Value} {ops : Array Oper} {o : Oper} {dep dep' : Nat → Option Nat} {n k : Nat} {bf : List Nat} {done : Nat} {rest : List (Nat × Oper)} {pend : Option Nat} {l : List Nat}
  {O : Nat → ABlk → Prop} {csT : List Frame} {fr fr1 : AFr} {callers : List AFr} {f : Frame} {cs : List Frame} {kk : List AItem} {big : FuncId → List AVal → St → Option (Option (AVal × St))} {M0 : Machine} {w0 : World}

theorem recheck_spec {bj j : Nat} : ∀ {l : List (Nat × Oper)}, recheck C ops bj done j tm fr callers s l = true → ∀ i o, (i, o) ∈ l → done.testBit i = true → bj.testBit i = false → i ≠ j → quietRead o.op = true → wanted ops tm o = some true →
    ∃ v s' d, aop C o.op tm fr callers s = some (.val v s') ∧ o.dst = some d ∧ tm.get d = some v
  | [], _, _, _, h, _, _, _, _, _ => by simp at h
  | (i0, o0) :: r, h, i, o, hm, h1, h2, h3, h4, h5 => by
    unfold recheck at h
    have go : recheck C ops bj done j tm fr callers s r = true → (i, o) ∈ r → ∃ v s' d, aop C o.op tm fr callers s = some (.val v s') ∧ o.dst = some d ∧ tm.get d = some v :=
      fun hr hmr => recheck_spec hr i o hmr h1 h2 h3 h4 h5
    split at h
    · rename_i hc
      split at h
      · rename_i hw
        split at h
        · rename_i v s' d ha hd
          split at h
          · rename_i w hg
            split at h
            · rename_i hb
              rcases List.mem_cons.1 hm with e | hm
              · cases e
                have := beqV_eq 4 _ _ hb
                subst this
                exact ⟨v, s', d, ha, hd, hg⟩
              · exact go h hm
            · cases h
          · cases h
        · cases h
      · rename_i hw
        rcases List.mem_cons.1 hm with e | hm
        · cases e; rw [hw] at h5; cases h5
        · exact go h hm
      · cases h
    · rename_i hc
      rcases List.mem_cons.1 hm with e | hm
      · cases e
        rw [h1, h2, h4, nbeq_false h3] at hc
        simp at hc
      · exact go h hm

theorem SRok.refl {m : AM} (R : MR C θ base dep O csT m f cs w) : SRok C (lone f cs w) θ base O csT w (.one m) :=
  ⟨θ, dep, f, cs, w, Steps.refl _ _, R, Th.le_refl _, Below.refl _ _⟩
theorem SRok.step1 {m : AM} {f' : Frame} {cs' : List Frame} (h : Go.step C.P (lone f cs w) = .next (lone f' cs' w)) (R : MR C θ base dep O csT m f' cs' w) : SRok C (lone f cs w) θ base O csT w (.one m) :=
  ⟨θ, dep, f', cs', w, .one h, R, Th.le_refl _, Below.refl _ _⟩

theorem step_recheck {j bj : Nat} (R : MR C θ base dep O csT ⟨fr, callers, s⟩ f cs w) (hm : fr.mode = .run) (ht : fr.todo = .inDraw ops bf done rest (some j) :: kk) (hj : done.testBit j = true) (hb : bf[j]? = some bj)
    (h : recheck C ops bj done j fr.tmps fr callers s (enum 0 ops.toList) = true) :
    SRok C (lone f cs w) θ base O csT w (.one { cur := { fr with todo := .inDraw ops bf done rest none :: kk }, callers, st := s }) := by
  obtain ⟨gm, l, k', tmL, gt, hk, T, D⟩ := R.cur.draw hm ht
  obtain ⟨hjl, hpast⟩ := D.past j rfl hj
  obtain ⟨K, k1, k2⟩ := D.proms
  refine .refl (dep := dep) ⟨R.W, R.cur.mkDraw (Th.le_refl _) rfl rfl rfl rfl hm rfl rfl rfl rfl gm (.inr ⟨ops, bf, done, rest, none, kk, l, k', tmL, rfl, gt, hk, T, ?_⟩), R.callers, R.out⟩
  refine { D with rest := ?_, head := fun j e => (by cases e), past := fun j e => (by cases e), proms := ⟨K, k1, fun i hi hd o ho => ?_⟩ }
  · rw [D.rest]
    apply List.filter_congr
    intro x _
    by_cases e : j = x.1
    · subst e; rw [hj]; rfl
    · have : (some j == some x.1) = false := by simpa using e
      rw [this]; rfl
  · have hP := k2 i hi hd o ho
    refine ⟨hP.quiet, ?_⟩
    rcases hP.want with h1 | ⟨h1, v, h2, h3, h4⟩
    · exact .inl h1
    · refine .inr ⟨h1, v, h2, h3, fun ha hq => ?_⟩
      cases hr : quietRead o.op with
      | false => exact h4 ha (.inl hr)
      | true =>
        obtain ⟨v2, s', d, q1, q2, q3⟩ := recheck_spec h i o (mem_enum0.2 (by simpa using ho)) hd (hpast bj hb i hi) (by rintro rfl; exact hjl hi) hr h1
        have hv : v2 = v := by
          have := h2 d q2
          rw [q3] at this
          exact Option.some.inj this
        subst hv
        have hs := aop_read (C := C) (tm := fr.tmps) (fr := fr) (callers := callers) hP.quiet ha s
        rw [q1] at hs
        simp only [setSt] at hs
        unfold qop
        rw [quiet_frame hP.quiet (fr' := fr) (callers' := callers), q1]
        exact hs

theorem waits_draw {fr : AFr} {j : Nat} (ht : fr.todo = .inDraw ops bf done rest (some j) :: kk) (hj : done.testBit j = false) : Waits fr := by
  intro _ _ _ _ _ _ e
  rw [ht] at e
  cases e
  exact ⟨j, rfl, hj⟩
theorem waits_plain {fr : AFr} (ht : ∀ ops bf done rest pend k, fr.todo ≠ .inDraw ops bf done rest pend :: k) : Waits fr :=
  fun _ _ _ _ _ _ e => absurd e (ht _ _ _ _ _ _)

theorem SRok.after {sr : SR} {f1 : Frame} {cs1 : List Frame} {θ1 : Th} (hs : Steps C.P (lone f cs w) (lone f1 cs1 w1)) (hle : θ.le θ1) (hb : Below base w w1) (h : SRok C (lone f1 cs1 w1) θ1 base O csT w1 sr) : SRok C (lone f cs w) θ base O csT w sr := by
  have one : ∀ m, OneOK C (lone f1 cs1 w1) θ1 base O csT w1 m → OneOK C (lone f cs w) θ base O csT w m := by
    rintro m ⟨θ', dep', f', cs', w', h1, h2, h3, h4⟩
    exact ⟨θ', dep', f', cs', w', hs.trans h1, h2, Th.le_trans hle h3, hb.trans h4⟩
  cases sr with
  | one m => exact one m h
  | many ms => obtain ⟨m, h1, h2⟩ := h; exact ⟨m, h1, one m h2⟩
  | done g v s =>
    obtain ⟨θ', f', w', v', h1, h2, h3, h4, h5, h6, h7, h8⟩ := h
    exact ⟨θ', f', w', v', hs.trans h1, h2, h3, h4, h5, Th.le_trans hle h6, hb.trans h7, h8⟩

theorem stepDraw_sound (hC : CfgOK C) (hbig : BigOK C big) {sr : SR} (R : MR C θ base dep O csT ⟨fr, callers, s⟩ f cs w) (hm : fr.mode = .run) (ht : fr.todo = .inDraw ops bf done rest none :: kk)
    (h : stepDraw C big fr callers s ops bf done rest kk = some sr) : SRok C (lone f cs w) θ base O csT w sr := by
  cases hf : firstQuiet bf done rest with
  | some p =>
    obtain ⟨i, o⟩ := p
    have hone : ∃ m', sr = .one m' := by
      unfold stepDraw at h
      rw [hf] at h
      simp only at h
      have key : ∀ {v : AVal} {s' : St}, putD fr.tmps fr.nt o.dst v none (fun tm => strictN (done ||| 2 ^ i) fun done => some (SR.one { cur := { fr with tmps := tm, todo := .inDraw ops bf done (rest.filter fun x => !(Nat.beq x.1 i)) none :: kk }, callers, st := s' })) = some sr → ∃ m', sr = .one m' := by
        intro v s' hp
        rcases putD_some hp with ⟨_, h2⟩ | ⟨_, _, _, h2⟩
        · rw [strictN_eq] at h2; cases h2; exact ⟨_, rfl⟩
        · rw [strictN_eq] at h2; cases h2; exact ⟨_, rfl⟩
      split at h
      · split at h
        · exact key h
        · cases h
      · exact key h
      · cases h
    obtain ⟨m', rfl⟩ := hone
    obtain ⟨dep', R'⟩ := stepDraw_quiet R hm ht hf h
    exact .refl R'
  | none =>
    obtain ⟨gm, l, k', tmL, gt, hk, T, D⟩ := R.cur.draw hm ht
    obtain ⟨θ1, f1, w1, l1, tm1, c1, R1, c3, c4, gm1, gt1, hk1, T1, D1, c5⟩ := catch_all hC hm ht l θ f w k' tmL R gm gt hk T D
    refine .after c1 c3 c4 ?_
    unfold stepDraw at h
    rw [hf] at h
    simp only at h
    split at h
    · -- all is done
      cases h
      have hl : l1 = [] := by
        rcases c5 with c5 | ⟨i, r, rfl, hi⟩
        · exact c5
        · have hlt := D1.lt i (by simp)
          have : (i, ops[i]) ∈ ([] : List (Nat × Oper)) := D1.mem_rest.2 ⟨Array.getElem?_eq_getElem hlt, hi, by simp⟩
          simp at this
      subst hl
      have T2 := T1.agree D1.empty
      exact .step1 (st_regionEnd gm1 gt1) ⟨R1.W, R1.cur.mkDraw (Th.le_refl _) rfl rfl rfl rfl hm rfl rfl rfl rfl gm1 (.inl ⟨T2, hk1⟩), R1.callers, R1.out⟩
    · rename_i i o r
      split at h
      · rename_i b hb
        split at h
        · rename_i hc
          have hc' := (Bool.and_eq_true _ _).mp hc
          rcases c5 with rfl | ⟨x, l2, rfl, hx⟩
          · have := D1.rest_l (o := o) (i := i) (by simp)
            simp at this
          · obtain ⟨e, hact, D2⟩ := D1.next hx hf rfl hb hc'.2
            subst e
            have ho : ops[x]? = some o := (D1.mem_rest.1 (show (x, o) ∈ (x, o) :: r by simp)).1
            obtain ⟨hs, hg⟩ := D1.slots ho
            have hev : f1.eval = ρ f1.tmps := by funext y; cases y <;> rfl
            have R2 : MR C θ1 base dep O csT ⟨{ fr with todo := .inDraw ops bf done r (some x) :: kk }, callers, s⟩ f1 cs w1 :=
              ⟨R1.W, R1.cur.mkDraw (Th.le_refl _) rfl rfl rfl rfl hm rfl rfl rfl rfl gm1 (.inr ⟨ops, bf, done, r, some x, kk, x :: l2, k', tm1, rfl, gt1, hk1, T1, D2⟩), R1.callers, R1.out⟩
            have hW : Waits { fr with todo := .inDraw ops bf done r (some x) :: kk } := waits_draw rfl hx
            split at h
            · rename_i hw
              have hwt : Region.wanted o (yielded ops f1.tmps) = true := by
                rw [wanted_congr hg] at hw
                exact wanted_sound T1 hw
              cases ha : aop C o.op fr.tmps { fr with todo := .inDraw ops bf done r (some x) :: kk } callers s with
              | none => rw [ha] at h; simp [applyOut] at h
              | some out =>
                rw [ha] at h
                have ha' := ha
                rw [aop_congr hs] at ha'
                have hok := aop_sound hC R1.W T1 ha'
                have hnd : fr.roundOf = none ∨ ∀ c, o.op ≠ .defer c := by
                  cases hr : fr.roundOf with
                  | none => exact .inl rfl
                  | some lp =>
                    refine .inr fun c e => ?_
                    -- a defer in a round is not done here
                    rw [e] at ha
                    simp only [aop, opDefer] at ha
                    split at ha
                    · split at ha
                      · cases ha
                        simp [applyOut, hr] at h
                      · cases ha
                    · cases ha
                have hnd' : f1.roundOf = none ∨ ∀ c, o.op ≠ .defer c := by
                  refine hnd.imp (fun hr => ?_) id
                  have := R1.cur.rnd
                  rw [show (AM.cur ⟨fr, callers, s⟩) = fr from rfl, hr] at this
                  exact this
                refine applyOut_sound hC hbig R2 hm hW (fun _ h => h) rfl rfl hok (fun fr' cs' w' hap => ?_) (fun d s' a k e => by rw [gt1] at e; cases e) h
                rw [← hev] at hap
                exact .one (st_op gm1 gt1 ho hwt hnd' hap)
            · rename_i hw
              have hwt : Region.wanted o (yielded ops f1.tmps) = false := by
                rw [wanted_congr hg] at hw
                exact wanted_sound T1 hw
              obtain ⟨a2, g1, g2⟩ := finish_sound (v' := Go.undef) R2.cur hm hW VR.uv h
              cases g1
              exact .step1 (st_opSkip gm1 gt1 ho hwt) ⟨R2.W, g2, R2.callers, R2.out⟩
            · cases h
        · cases h
      · cases h
end
end Go.AM
