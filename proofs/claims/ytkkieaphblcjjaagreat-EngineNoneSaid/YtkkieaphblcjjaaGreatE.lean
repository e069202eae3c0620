/- Each step of the one machine is some steps of the other; what the log of changes tells. Without conditions. -/
import Derived.Test.YtkkieaphblcjjaaGreatD

namespace Go.AM
open Go.RowKit
section
variable {C : Cfg} {θ θ' : Th} {base : Nat} {s s' : St} {w w1 : World} {tm tmL : Tr AVal} {nt : Nat} {ts : Array Value} {v : AVal} {v' : Value} {ops : Array Oper} {o : Oper} {dep dep' : Nat → Option Nat} {n k : Nat} {bf : List Nat} {done : Nat} {rest : List (Nat × Oper)} {pend : Option Nat} {l : List Nat}
  {O : Nat → ABlk → Prop} {csT : List Frame} {fr fr1 : AFr} {callers : List AFr} {f : Frame} {cs : List Frame} {kk : List AItem} {big : FuncId → List AVal → St → Option (Option (AVal × St))} {M0 : Machine} {w0 : World}

/-- an operation of a region in the order of the text -/
theorem stepText_sound (hC : CfgOK C) (hbig : BigOK C big) {sr : SR} {rest : List Oper} (R : MR C θ base dep O csT ⟨fr, callers, s⟩ f cs w) (hm : fr.mode = .run) (ht : fr.todo = .inReg ops (o :: rest) :: kk)
    (h : (match wanted ops fr.tmps o with
      | some true => applyOut C big fr callers (aop C o.op fr.tmps fr callers s)
      | some false => putD fr.tmps fr.nt o.dst (.tuple []) none fun tm => some (.one { cur := { fr with tmps := tm, todo := .inReg ops rest :: kk }, callers, st := s })
      | none => none) = some sr) : SRok C (lone f cs w) θ base O csT w sr := by
  have hnd : ∀ ops bf done rest pend k, fr.todo ≠ .inDraw ops bf done rest pend :: k := by rw [ht]; intro _ _ _ _ _ _ e; cases e
  obtain ⟨gm, T, I⟩ := R.cur.plain hm hnd
  simp only at I T
  rw [ht] at I
  obtain ⟨x, k', e1, e2, e3⟩ := I
  cases e2 with
  | inReg _ _ l hl =>
    cases l with
    | nil => simp at hl
    | cons i l =>
      simp only [List.map_cons, List.cons.injEq] at hl
      have ho := hl.1
      have hev : f.eval = ρ f.tmps := by funext y; cases y <;> rfl
      split at h
      · rename_i hw
        have hwt := wanted_sound T hw
        cases ha : aop C o.op fr.tmps fr callers s with
        | none => rw [ha] at h; simp [applyOut] at h
        | some out =>
          rw [ha] at h
          have hok := aop_sound hC R.W T ha
          have hnd2 : f.roundOf = none ∨ ∀ c, o.op ≠ .defer c := by
            cases hr : fr.roundOf with
            | none =>
              have := R.cur.rnd
              rw [show (AM.cur ⟨fr, callers, s⟩) = fr from rfl, hr] at this
              exact .inl this
            | some lp =>
              refine .inr fun c e => ?_
              rw [e] at ha
              simp only [aop, opDefer] at ha
              split at ha
              · split at ha
                · cases ha
                  simp [applyOut, hr] at h
                · cases ha
              · cases ha
          refine applyOut_sound hC hbig R hm (waits_plain hnd) (fun _ h => h) rfl rfl hok (fun fr' cs' w' hap => ?_) (fun d s' a k e => by rw [e1] at e; cases e) h
          rw [← hev] at hap
          exact .one (st_op gm e1 ho hwt hnd2 hap)
      · rename_i hw
        have hwt := wanted_sound T hw
        have hst := st_opSkip (P := C.P) (cs := cs) (w := w) gm e1 ho hwt
        rw [finish_region e1 ho] at hst
        rcases putD_some h with ⟨h1, h2⟩ | ⟨d, h1, h2, h3⟩
        · cases h2
          exact .step1 hst ⟨R.W, R.cur.mkDraw (Th.le_refl _) rfl rfl rfl rfl hm rfl rfl rfl rfl gm (.inl ⟨by rw [h1]; exact T, .cons (.inReg _ _ _ hl.2) e3⟩), R.callers, R.out⟩
        · cases h3
          exact .step1 hst ⟨R.W, R.cur.mkDraw (Th.le_refl _) rfl rfl rfl rfl hm rfl rfl rfl rfl gm (.inl ⟨by rw [h1]; exact T.set h2 VR.uv, .cons (.inReg _ _ _ hl.2) e3⟩), R.callers, R.out⟩
      · cases h

/-- a frame goes on with other things to do -/
theorem MR.goOn {todo : List AItem} {todo' : List Item} (R : MR C θ base dep O csT ⟨fr, callers, s⟩ f cs w) (hm : fr.mode = .run) (gm : f.mode = .run) (T : TR θ fr.tmps fr.nt f.tmps) (I : ItsR θ todo todo') :
    MR C θ base dep O csT ⟨{ fr with todo := todo }, callers, s⟩ { f with todo := todo' } cs w :=
  ⟨R.W, R.cur.mkDraw (Th.le_refl _) rfl rfl rfl rfl hm rfl rfl rfl rfl gm (.inl ⟨T, I⟩), R.callers, R.out⟩

theorem MR.returning (R : MR C θ base dep O csT ⟨fr, callers, s⟩ f cs w) (T : TR θ fr.tmps fr.nt f.tmps) :
    MR C θ base dep O csT ⟨{ fr with mode := .returning }, callers, s⟩ { f with mode := .returning } cs w :=
  ⟨R.W, ⟨R.cur.fn, R.cur.kind, R.cur.rnd, R.cur.defs, ⟨rfl, T⟩⟩, R.callers, R.out⟩

theorem leave_round {jump : Option Code} {sr : SR} {lp : Nat} {L : Loc} {st st' : LoopState} {p : Option Code} {fn : FuncId} {tm : Tr AVal} {nt : Nat} {ps : List Tmp} {a b : Code} {d : Nat} {bv : Bool}
    (R : MR C θ base dep O csT ⟨fr, callers, s⟩ f cs w) (gm : f.mode = .run) (hdf : fr.deferred = false) (hr : fr.roundOf = some lp) (hL : θ lp = some L) (hr' : f.roundOf = some L.cb) (hkind : f.kind = .normal) (hb : s.heap.get lp = some (.loop st p fn tm nt ps a b d)) (hlo : C.lo ≤ lp)
    (ht : (f.todo = [] ∧ jump = none) ∨ (∃ k, f.todo = .code .ret :: k ∧ jump = some .ret) ∨ (∃ k id, f.todo = .code (.exit id) :: k ∧ Go.exitTo id k = none ∧ jump = some (.exit id)) ∨ (∃ k l, f.todo = .code (.goto l) :: k ∧ Go.gotoIn l k = none ∧ jump = some (.goto l)))
    (h : doReturn { cur := fr, callers, st := s.set lp (.loop st' jump fn tm nt ps a b d) } (.bool bv) = some sr) (e1 : (if jump.isNone then LoopState.ready else .done) = st') (e2 : jump.isNone = bv) : SRok C (lone f cs w) θ base O csT w sr := by
  obtain ⟨ts, Ld, k1, k2, k3⟩ := R.W.blk _ _ _ hb hL
  unfold doReturn at h
  simp only at h
  split at h
  · rw [hdf, hr] at h; simp at h
  · rename_i c rest
    rw [hdf] at h
    split at h
    · rename_i e1 e2; cases e1
    · rename_i e3 hcm
      have hB : BR θ (.loop st' jump fn tm nt ps a b d) L (some (.loop { state := if jump.isNone then .ready else .done, pending := jump, fn, tmps := ts, params := ps.toArray, assign := a, body := b, defers := Ld.cb })) :=
        ⟨ts, Ld, k1, k2, by rw [e1]⟩
      obtain ⟨w2, w3⟩ := R.W.putObj hlo hb (by simp) hL hB
      obtain ⟨c', r', e4, e5, e6, e7⟩ := R.callers
      subst e4
      have hcw : Waits c := e6.resolve_right (by rw [hcm]; intro e; cases e)
      have hst := st_roundEnd (P := C.P) (cs := r') (c := c') (jump := jump) gm hr' k3 hkind ht
      have w3' : Ext θ θ base s.heap (s.set lp (.loop st' jump fn tm nt ps a b d)).heap w _ := w3
      obtain ⟨a2, g1, g2⟩ := finish_sound (v' := .bool jump.isNone) (e5.ext w3' hcw) hcm hcw (by simp only [VR]; rw [e2]) h
      cases g1
      exact ⟨θ, dep, _, r', _, .one hst, ⟨w2, g2, e7.ext w3', out_ext R.out w3⟩, Th.le_refl _, w3.below⟩
    · cases h

/-- the frame's code comes to an end, or leaves its round -/
theorem leave_sound {jump : Option Code} {sr : SR} (R : MR C θ base dep O csT ⟨fr, callers, s⟩ f cs w) (_hm : fr.mode = .run) (gm : f.mode = .run) (T : TR θ fr.tmps fr.nt f.tmps)
    (ht : (f.todo = [] ∧ jump = none) ∨ (∃ k, f.todo = .code .ret :: k ∧ jump = some .ret) ∨ (∃ k id, f.todo = .code (.exit id) :: k ∧ Go.exitTo id k = none ∧ jump = some (.exit id)) ∨ (∃ k l, f.todo = .code (.goto l) :: k ∧ Go.gotoIn l k = none ∧ jump = some (.goto l)))
    (h : AM.leave C fr callers s jump = some sr) : SRok C (lone f cs w) θ base O csT w sr := by
  unfold AM.leave at h
  split at h
  · rename_i hr
    have hr' : f.roundOf = none := by
      have := R.cur.rnd
      rw [show (AM.cur ⟨fr, callers, s⟩) = fr from rfl, hr] at this
      exact this
    split at h
    · cases h
      rcases ht with ⟨ht, _⟩ | ⟨k, ht, e⟩ | ⟨k, id, ht, he, e⟩ | ⟨k, id, ht, he, e⟩
      · exact .step1 (st_end gm ht hr') (R.returning T)
      all_goals cases e
    · cases h
      rcases ht with ⟨ht, e⟩ | ⟨k, ht, e⟩ | ⟨k, id, ht, he, e⟩ | ⟨k, id, ht, he, e⟩
      · cases e
      · exact .step1 (st_ret gm ht hr') (R.returning T)
      all_goals cases e
    · cases h
  · rename_i lp hr
    have hrn := R.cur.rnd
    rw [show (AM.cur ⟨fr, callers, s⟩) = fr from rfl, hr] at hrn
    obtain ⟨hdf, L, hL, hr'⟩ := hrn
    have hkind : f.kind = .normal := by
      have := R.cur.kind
      rw [show (AM.cur ⟨fr, callers, s⟩) = fr from rfl, hdf] at this
      exact this
    split at h
    · rename_i st p fn tm nt ps a b d hb hlo0
      rw [put_eq] at h
      cases jump with
      | none => exact leave_round R gm hdf hr hL hr' hkind hb (of_ble hlo0) ht h rfl rfl
      | some j => exact leave_round R gm hdf hr hL hr' hkind hb (of_ble hlo0) ht h rfl rfl
    · cases h

/-- what a result variable holds -/
def resV (ts : Array Value) : ResultVar → Sem Value
  | .tmp t => pure (ts.getD t Go.undef)
  | .cell a t => do Go.loadVar t (← asAddr (ts.getD a Go.undef))
theorem resV_sound (hC : CfgOK C) (W : WR θ C.lo base s.heap w) (T : TR θ tm nt ts) {x : ResultVar} {v : AVal}
    (h : (match x with
      | .tmp t => match tm.get t with | some v => some v | none => some (.tuple [])
      | .cell a t => match tm.get a with | some (.ptr b off) => AM.loadVar C s t b off | _ => none) = some v) : ∃ u, VR θ v u ∧ (resV ts x).run C.P w = .ok u w := by
  cases x with
  | tmp t =>
    refine ⟨ts.getD t Go.undef, ?_, rfl⟩
    have := T.2 t
    simp only at h
    split at h
    · rename_i v' hv
      cases h
      rw [hv] at this
      exact this
    · rename_i hv
      cases h
      rw [hv] at this
      exact this
  | cell a t =>
    simp only at h
    split at h
    · rename_i b off hv
      have hp := T.2 a
      rw [hv] at hp
      simp only [Option.getD_some, VR] at hp
      obtain ⟨L, g1, g2⟩ := hp
      obtain ⟨u, q1, q2⟩ := loadVar_sound hC W g1 h
      refine ⟨u, q2, ?_⟩
      simp only [resV, g2]
      simp [asAddr, q1]
    · cases h
theorem results_list (hC : CfgOK C) (W : WR θ C.lo base s.heap w) (T : TR θ tm nt ts) : ∀ {rs : List ResultVar} {vs : List AVal}, resultsOf C tm s rs = some vs →
    ∃ us : List Value, VRs θ vs us ∧ (rs.mapM (resV ts)).run C.P w = .ok us w
  | [], vs, h => by simp [resultsOf] at h; subst h; exact ⟨[], VRs.nil, rfl⟩
  | x :: rs, vs, h => by
    simp only [resultsOf] at h
    split at h
    · rename_i v l hv hl
      cases h
      obtain ⟨us, g1, g2⟩ := results_list hC W T hl
      obtain ⟨u, q1, q2⟩ := resV_sound hC W T hv
      exact ⟨u :: us, VRs.cons q1 g1, by simp [List.mapM_cons, q2, g2]⟩
    · cases h
end
end Go.AM

namespace Go.AM
open Go.RowKit
section
variable {C : Cfg} {θ θ' : Th} {base : Nat} {s s' : St} {w w1 : World} {tm tmL : Tr AVal} {nt : Nat} {ts : Array Value} {v : AVal} {v' : Value} {ops : Array Oper} {o : Oper} {dep dep' : Nat → Option Nat} {n k : Nat} {bf : List Nat} {done : Nat} {rest : List (Nat × Oper)} {pend : Option Nat} {l : List Nat}
  {O : Nat → ABlk → Prop} {csT : List Frame} {fr fr1 : AFr} {callers : List AFr} {f : Frame} {cs : List Frame} {kk : List AItem} {big : FuncId → List AVal → St → Option (Option (AVal × St))} {M0 : Machine} {w0 : World}

theorem SRok.go {todo : List AItem} {todo' : List Item} (R : MR C θ base dep O csT ⟨fr, callers, s⟩ f cs w) (hm : fr.mode = .run) (gm : f.mode = .run) (T : TR θ fr.tmps fr.nt f.tmps) (I : ItsR θ todo todo')
    (h : Go.step C.P (lone f cs w) = .next (lone { f with todo := todo' } cs w)) : SRok C (lone f cs w) θ base O csT w (.one ⟨{ fr with todo := todo }, callers, s⟩) :=
  .step1 h (R.goOn hm gm T I)

/-- a region in an order of its own begins -/
theorem DrawR.start (_hC : CfgOK C) (hmix : C.P.follows .mixedOrders = true) (hok : regOk ops (Region.before ops).toList (enum 0 ops.toList) = true) (t : Nat) :
    DrawR C θ s dep n tm tm nt ops (Region.before ops).toList 0 (enum 0 ops.toList) none (Region.schedule (C.P.follows .mixedOrders) ops t) := by
  have hR := regOk_spec hok
  obtain ⟨h1, h2, h3, h4⟩ := schedule_spec hmix hR.back t
  have hbits : ∀ (x b : Nat), (Region.before ops).toList[x]? = some b → ∀ j, b.testBit j = true → j < x := fun x b hx j hj => before_lt hR.back x b (by simpa using hx) j hj
  refine ⟨hR, h4, h2, h1, fun i hi hl => absurd (h3 i hi) hl, ?_, fun i b h => (by simp at h), fun i o d h => (by simp at h), fun _ _ => rfl, hbits, fun j e => (by cases e), fun j e => (by cases e), id, fun i _ j _ _ _ h => (by simp at h), fun i _ h => (by simp at h)⟩
  symm
  rw [List.filter_eq_self]
  intro x _
  simp

theorem stepCode_sound (hC : CfgOK C) (hmix : C.P.follows .mixedOrders = true) {c : Code} {sr : SR} (hnr : ∀ g ps a b, c ≠ .rangeFunc g ps a b) (R : MR C θ base dep O csT ⟨fr, callers, s⟩ f cs w) (hm : fr.mode = .run) (ht : fr.todo = .code c :: kk)
    (h : stepCode C big fr callers s c kk = some sr) : SRok C (lone f cs w) θ base O csT w sr := by
  have hnd : ∀ ops bf done rest pend k, fr.todo ≠ .inDraw ops bf done rest pend :: k := by rw [ht]; intro _ _ _ _ _ _ e; cases e
  obtain ⟨gm, T, I⟩ := R.cur.plain hm hnd
  simp only at I T
  rw [ht] at I
  obtain ⟨x, k', e1, e2, e3⟩ := I
  cases e2 with
  | code _ =>
    have hev : f.eval = ρ f.tmps := by funext y; cases y <;> rfl
    unfold stepCode at h
    cases c with
    | ret => exact leave_sound R hm gm T (.inr (.inl ⟨k', e1, rfl⟩)) h
    | skip => cases h; exact .go R hm gm T e3 (st_skip gm e1)
    | label lb => cases h; exact .go R hm gm T e3 (st_label gm e1)
    | seq a b => cases h; exact .go R hm gm T (.cons (.code a) (.cons (.code b) e3)) (st_seq gm e1)
    | cond c a b =>
      simp only at h
      split at h
      · rename_i hc
        cases h
        have hv := eval_sound T hc
        simp only [VR] at hv
        have hst := st_cond (P := C.P) (cs := cs) (w := w) gm e1 (by rw [hev]; exact hv)
        exact .go R hm gm T (.cons (.code a) e3) hst
      · rename_i hc
        cases h
        have hv := eval_sound T hc
        simp only [VR] at hv
        have hst := st_cond (P := C.P) (cs := cs) (w := w) gm e1 (by rw [hev]; exact hv)
        exact .go R hm gm T (.cons (.code b) e3) hst
      · cases h
    | block id b => cases h; exact .go R hm gm T (.cons (.code b) (.cons (.inBlock id) e3)) (st_block gm e1)
    | loop b => cases h; exact .go R hm gm T (.cons (.code b) (.cons (.inLoop b) e3)) (st_loop gm e1)
    | scope b => cases h; exact .go R hm gm T (.cons (.code b) (.cons (.inScope b) e3)) (st_scope gm e1)
    | exit id =>
      simp only at h
      split at h
      · rename_i k2 hk
        cases h
        obtain ⟨k3, g1, g2⟩ := (exitTo_sound e3).1 _ hk
        exact .go R hm gm T g2 (st_exit gm e1 g1)
      · rename_i hk
        exact leave_sound R hm gm T (.inr (.inr (.inl ⟨k', id, e1, (exitTo_sound e3).2 hk, rfl⟩))) h
    | goto lb =>
      simp only at h
      split at h
      · rename_i k2 hk
        cases h
        obtain ⟨k3, g1, g2⟩ := (gotoIn_sound e3).1 _ hk
        exact .go R hm gm T g2 (st_goto gm e1 g1)
      · rename_i hk
        exact leave_sound R hm gm T (.inr (.inr (.inr ⟨k', lb, e1, (gotoIn_sound e3).2 hk, rfl⟩))) h
    | rangeFunc g ps a b => exact absurd rfl (hnr g ps a b)
    | region id ops draw =>
      simp only at h
      cases draw with
      | false =>
        cases h
        refine .go R hm gm T (.cons (.inReg _ _ _ ?_) e3) (st_region gm e1)
        apply List.ext_getElem?
        intro i
        rw [List.getElem?_map, List.getElem?_map]
        by_cases hi : i < ops.size
        · rw [List.getElem?_range hi]
          simp [hi]
        · rw [List.getElem?_eq_none (by simpa using hi), List.getElem?_eq_none (by simpa using hi)]
          rfl
      | true =>
        simp only at h
        split at h
        · rename_i hok
          cases h
          have hst := st_draw (P := C.P) (cs := cs) (w := w) gm e1
          refine ⟨θ, dep, _, cs, _, .one hst, ⟨R.W.drew, R.cur.mkDraw (Th.le_refl _) rfl rfl rfl rfl hm rfl rfl rfl rfl gm (.inr ⟨ops, _, _, _, none, kk, _, k', fr.tmps, rfl, rfl, e3, T, DrawR.start hC hmix hok _⟩), R.callers, R.out⟩, Th.le_refl _, (Below.refl _ _).drew⟩
        · cases h
    | refuse m => cases h
end
end Go.AM

namespace Go.AM
open Go.RowKit
section
variable {C : Cfg} {θ θ' : Th} {base : Nat} {s s' : St} {w w1 : World} {tm tmL : Tr AVal} {nt : Nat} {ts : Array Value} {v : AVal} {v' : Value} {ops : Array Oper} {o : Oper} {dep dep' : Nat → Option Nat} {n k : Nat} {bf : List Nat} {done : Nat} {rest : List (Nat × Oper)} {pend : Option Nat} {l : List Nat}
  {O : Nat → ABlk → Prop} {csT : List Frame} {fr fr1 : AFr} {callers : List AFr} {f : Frame} {cs : List Frame} {kk : List AItem} {big : FuncId → List AVal → St → Option (Option (AVal × St))} {M0 : Machine} {w0 : World}

/-- a record of a loop is another one: the frame goes on -/
theorem SRok.loop {lp : Nat} {L : Loc} {x : ABlk} {st' : LoopState} {p : Option Code} {fn : FuncId} {tm : Tr AVal} {nt : Nat} {ps : List Tmp} {a b : Code} {d : Nat} {r : Loop} {todo : List AItem} {todo' : List Item}
    (R : MR C θ base dep O csT ⟨fr, callers, s⟩ f cs w) (hm : fr.mode = .run) (gm : f.mode = .run) (T : TR θ fr.tmps fr.nt f.tmps) (hlo : C.lo ≤ lp) (hb : s.heap.get lp = some x) (hx : x ≠ .dead) (hL : θ lp = some L)
    (hw : Waits fr) (hB : BR θ (.loop st' p fn tm nt ps a b d) L (some (.loop r))) (I : ItsR θ todo todo') (h : Go.step C.P (lone f cs w) = .next (lone { f with todo := todo' } cs (w.putObj L.cb (.loop r)))) :
    SRok C (lone f cs w) θ base O csT w (.one ⟨{ fr with todo := todo }, callers, s.set lp (.loop st' p fn tm nt ps a b d)⟩) := by
  obtain ⟨w2, w3⟩ := R.W.putObj hlo hb hx hL hB
  have w3' : Ext θ θ base s.heap (s.set lp (.loop st' p fn tm nt ps a b d)).heap w _ := w3
  exact ⟨θ, dep, _, cs, _, .one h, ⟨w2, (R.cur.ext w3' hw).mkDraw (Th.le_refl _) rfl rfl rfl rfl hm rfl rfl rfl rfl gm (.inl ⟨T, I⟩), R.callers.ext w3', out_ext R.out w3⟩, Th.le_refl _, w3.below⟩

theorem pend_items {k' : List Item} (p : Option Code) (e3 : ItsR θ kk k') : ItsR θ (match p with | some c => .code c :: kk | none => kk) ((p.map Item.code).toList ++ k') := by
  cases p with
  | none => exact e3
  | some c => exact .cons (.code c) e3
theorem step_endRange {lp : Nat} {sr : SR} (R : MR C θ base dep O csT ⟨fr, callers, s⟩ f cs w) (hm : fr.mode = .run) (ht : fr.todo = .endRange lp :: kk)
    (h : (match s.heap.get lp, Nat.ble C.lo lp with
      | some (.loop ls p fn tm nt ps a b d), true => match ls with
        | .busy => none
        | _ => s.put lp (.loop .exhausted p fn tm nt ps a b d) fun st => some (SR.one { cur := { fr with todo := match p with | some c => .code c :: kk | none => kk }, callers, st })
      | _, _ => none) = some sr) : SRok C (lone f cs w) θ base O csT w sr := by
  have hnd : ∀ ops bf done rest pend k, fr.todo ≠ .inDraw ops bf done rest pend :: k := by rw [ht]; intro _ _ _ _ _ _ e; cases e
  obtain ⟨gm, T, I⟩ := R.cur.plain hm hnd
  simp only at I T
  rw [ht] at I
  obtain ⟨x, k', e1, e2, e3⟩ := I
  cases e2 with
  | endRange _ L hL =>
    split at h
    · rename_i ls p fn tm nt ps a b d hb hlo0
      obtain ⟨ts, Ld, k1, k2, k3⟩ := R.W.blk _ _ _ hb hL
      have hB : BR θ (.loop .exhausted p fn tm nt ps a b d) L (some (.loop { state := .exhausted, pending := p, fn, tmps := ts, params := ps.toArray, assign := a, body := b, defers := Ld.cb })) := ⟨ts, Ld, k1, k2, rfl⟩
      split at h
      · cases h
      · rename_i hne
        rw [put_eq] at h
        cases h
        exact SRok.loop R hm gm T (of_ble hlo0) hb (by simp) hL (waits_plain hnd) hB (pend_items p e3) (st_endRange (k := k') gm e1 k3 (by intro e; exact hne e))
    · cases h

theorem step_beginRound {lp : Nat} {sr : SR} (R : MR C θ base dep O csT ⟨fr, callers, s⟩ f cs w) (hm : fr.mode = .run) (ht : fr.todo = .beginRound :: kk) (hr : fr.roundOf = some lp)
    (h : (match s.heap.get lp, Nat.ble C.lo lp with
      | some (.loop .ready p fn tm nt ps a b d), true => s.put lp (.loop .busy p fn tm nt ps a b d) fun st => some (SR.one { cur := { fr with todo := kk }, callers, st })
      | _, _ => none) = some sr) : SRok C (lone f cs w) θ base O csT w sr := by
  have hnd : ∀ ops bf done rest pend k, fr.todo ≠ .inDraw ops bf done rest pend :: k := by rw [ht]; intro _ _ _ _ _ _ e; cases e
  obtain ⟨gm, T, I⟩ := R.cur.plain hm hnd
  simp only at I T
  rw [ht] at I
  obtain ⟨x, k', e1, e2, e3⟩ := I
  cases e2 with
  | beginRound =>
    have hrn := R.cur.rnd
    rw [show (AM.cur ⟨fr, callers, s⟩) = fr from rfl, hr] at hrn
    obtain ⟨hdf, L, hL, hr'⟩ := hrn
    split at h
    · rename_i p fn tm nt ps a b d hb hlo0
      obtain ⟨ts, Ld, k1, k2, k3⟩ := R.W.blk _ _ _ hb hL
      have hB : BR θ (.loop .busy p fn tm nt ps a b d) L (some (.loop { state := .busy, pending := p, fn, tmps := ts, params := ps.toArray, assign := a, body := b, defers := Ld.cb })) := ⟨ts, Ld, k1, k2, rfl⟩
      rw [put_eq] at h
      cases h
      exact SRok.loop R hm gm T (of_ble hlo0) hb (by simp) hL (waits_plain hnd) hB e3 (st_beginRound (k := k') gm e1 hr' k3 rfl)
    · cases h
end
end Go.AM

namespace Go.AM
open Go.RowKit
section
variable {C : Cfg} {θ θ' : Th} {base : Nat} {s s' : St} {w w1 : World} {tm tmL : Tr AVal} {nt : Nat} {ts : Array Value} {v : AVal} {v' : Value} {dep dep' : Nat → Option Nat} {n k : Nat}
  {O : Nat → ABlk → Prop} {csT : List Frame} {fr fr1 : AFr} {callers : List AFr} {f : Frame} {cs : List Frame} {kk : List AItem} {big : FuncId → List AVal → St → Option (Option (AVal × St))} {M0 : Machine} {w0 : World}

def retV (vs : List AVal) : AVal := match vs with | [v] => v | _ => .tuple vs
theorem results_sound (hC : CfgOK C) (W : WR θ C.lo base s.heap w) (T : TR θ tm nt ts) {fn : Func} {vs : List AVal} (h : resultsOf C tm s fn.results.toList = some vs) :
    ∃ v', (results fn ts).run C.P w = .ok v' w ∧ VR θ (retV vs) v' := by
  obtain ⟨us, h1, h2⟩ := results_list hC W T h
  have hr : (results fn ts) = (do let vs ← fn.results.mapM (resV ts); pure (if h : vs.size = 1 then vs[0] else .tuple vs)) := by
    unfold results
    congr 1
  have hm : (fn.results.mapM (resV ts)).run C.P w = .ok us.toArray w := by
    rw [Array.mapM_eq_mapM_toList]
    show Sem.run C.P (List.toArray <$> fn.results.toList.mapM (resV ts)) w = _
    rw [← bind_pure_comp, Sem.run_bind, h2]
    rfl
  refine ⟨_, by rw [hr, Sem.run_bind, hm]; rfl, ?_⟩
  have hl := h1.length
  unfold retV
  split
  · rename_i v
    simp only [VRs] at h1
    obtain ⟨u, r, rfl, g1, rfl⟩ := h1
    exact g1
  · rename_i hne
    have : us.toArray.size ≠ 1 := by
      intro e
      simp at e
      rw [e] at hl
      obtain ⟨v, rfl⟩ := List.length_eq_one_iff.1 hl
      first | exact hne v rfl | exact hne v h | exact hne v h rfl | exact hne v h HEq.rfl | exact hne v h rfl HEq.rfl
    rw [dif_neg this]
    simp only [VR]
    exact ⟨_, rfl, by simpa using h1⟩

/-- a frame gives its result -/
theorem return_sound (_hC : CfgOK C) {sr : SR} {fn : Func} (R : MR C θ base dep O csT ⟨fr, callers, s⟩ f cs w) (gm : f.mode = .returning) (gd : f.defers = []) (hf : C.P.funcs[f.fn]? = some fn) (hr : (results fn f.tmps).run C.P w = .ok v' w) (hv : VR θ v v')
    (h : doReturn { cur := fr, callers, st := s } v = some sr) : SRok C (lone f cs w) θ base O csT w sr := by
  have hk := R.cur.kind
  simp only at hk
  unfold doReturn at h
  simp only at h
  split at h
  · have hcs : cs = csT := R.callers
    subst hcs
    split at h
    · rename_i hd _
      cases h
      rw [hd] at hk
      exact ⟨θ, f, w, v', Steps.refl _ _, ⟨gm, gd, hk, fn, hf, hr⟩, R.cur.fn, hv, R.W, Th.le_refl _, Below.refl _ _, fun b x hO => ⟨(R.out b x hO).1, (R.out b x hO).2.1⟩⟩
    · cases h
  · rename_i c rest
    obtain ⟨c', r', e1, e2, e3, e4⟩ := R.callers
    subst e1
    split at h
    · rename_i hd hcm
      cases h
      rw [hd] at hk
      have hb := e2.body
      rw [hcm] at hb
      exact .step1 (st_returnDeferred gm gd hk hf hr hb.1) ⟨R.W, e2, e4, R.out⟩
    · rename_i hd hcm
      rw [hd] at hk
      have hcw : Waits c := e3.resolve_right (by rw [hcm]; intro e; cases e)
      obtain ⟨a2, g1, g2⟩ := finish_sound e2 hcm hcw hv h
      cases g1
      exact .step1 (st_return gm gd hk hf hr) ⟨R.W, g2, e4, R.out⟩
    · cases h
end
end Go.AM

namespace Go.AM
open Go.RowKit
section
variable {C : Cfg} {θ θ' : Th} {base : Nat} {s s' : St} {w w1 : World} {tm tmL : Tr AVal} {nt : Nat} {ts : Array Value} {v : AVal} {v' : Value} {dep dep' : Nat → Option Nat} {n k : Nat}
  {O : Nat → ABlk → Prop} {csT : List Frame} {fr fr1 : AFr} {callers : List AFr} {f : Frame} {cs : List Frame} {kk : List AItem} {big : FuncId → List AVal → St → Option (Option (AVal × St))} {M0 : Machine} {w0 : World}

theorem stepRet_sound (hC : CfgOK C) {sr : SR} (R : MR C θ base dep O csT ⟨fr, callers, s⟩ f cs w) (hm : fr.mode = .returning) (h : stepRet C big fr callers s = some sr) : SRok C (lone f cs w) θ base O csT w sr := by
  have hb := R.cur.body
  rw [show (AM.cur ⟨fr, callers, s⟩) = fr from rfl, hm] at hb
  obtain ⟨gm, T⟩ := hb
  have hd := R.cur.defs
  rw [show (AM.cur ⟨fr, callers, s⟩) = fr from rfl] at hd
  unfold stepRet at h
  split at h
  · rename_i r ds hds
    rw [hds] at hd
    obtain ⟨d', rest', e1, ⟨L, hL, e2⟩, e3⟩ := hd
    split at h
    · rename_i lst hb hlo0
      obtain ⟨calls', k1, k2⟩ := R.W.blk _ _ _ hb hL
      cases calls' with
      | none => exact k2.elim
      | some calls =>
        rw [put_eq] at h
        cases h
        obtain ⟨w2, w3⟩ := R.W.putObj (x' := .deferred none) (o := .deferred none) (of_ble hlo0) hb (by simp) hL ⟨none, rfl, trivial⟩
        have w3' : Ext θ θ base s.heap (s.set r (.deferred none)).heap w _ := w3
        have hst := st_take (P := C.P) (cs := cs) gm (by rw [e1, e2]) k1
        have F := R.cur.mono (s' := s.set r (.deferred none)) (θ' := θ) (dep' := dep) (Th.le_refl _) (fun b x h1 h2 h3 => ⟨(w3'.pend b x h1 h3).1, (w3'.pend b x h1 h3).2, h2⟩) (.inl (.inr hm))
        refine ⟨θ, dep, _, cs, _, .one hst, ⟨w2, ⟨F.fn, F.kind, F.rnd, DRs.append k2 e3, ?_⟩, R.callers.ext w3', out_ext R.out w3⟩, Th.le_refl _, w3.below⟩
        rw [show ({ fr with defers := lst ++ ds } : AFr).mode = fr.mode from rfl, hm]
        exact ⟨gm, T⟩
    · cases h
  · rename_i g args ds hds
    rw [hds] at hd
    obtain ⟨d', rest', e1, ⟨cap, args', e2, hv⟩, e3⟩ := hd
    split at h
    · rename_i g' args2 s2 hcf
      obtain ⟨e4, e5⟩ := callFn_sound (w := w) hC hv hcf
      cases e4
      obtain ⟨fn, c, g1, g2, g3⟩ := enterFr_some h
      cases g3
      have hst := st_callDeferred (cs := cs) gm (by rw [e1, e2]) e5
      refine .step1 hst ⟨R.W, FrR.enter hC (dfd := true) g1 g2 hv, ⟨_, cs, rfl, ⟨R.cur.fn, R.cur.kind, R.cur.rnd, e3, ?_⟩, .inr hm, R.callers⟩, R.out⟩
      rw [show ({ fr with defers := ds } : AFr).mode = fr.mode from rfl, hm]
      exact ⟨gm, T⟩
    · cases h
  · rename_i hds
    rw [hds] at hd
    split at h
    · rename_i fn hfn
      split at h
      · rename_i vs hvs
        obtain ⟨v', h1, h2⟩ := results_sound hC R.W T hvs
        exact return_sound hC R gm hd (by rw [R.cur.fn]; exact hC.fns _ _ hfn) h1 h2 h
      · cases h
    · cases h
end
end Go.AM

namespace Go.AM
open Go.RowKit
section
variable {C : Cfg} {θ θ' : Th} {base : Nat} {s s' : St} {w w1 : World} {tm tmL : Tr AVal} {nt : Nat} {ts : Array Value} {v : AVal} {v' : Value} {dep dep' : Nat → Option Nat} {n k : Nat}
  {O : Nat → ABlk → Prop} {csT : List Frame} {fr fr1 : AFr} {callers : List AFr} {f : Frame} {cs : List Frame} {kk : List AItem} {big : FuncId → List AVal → St → Option (Option (AVal × St))} {M0 : Machine} {w0 : World}

theorem SRok.weaken {sr : SR} {θ1 : Th} (hle : θ.le θ1) (h : SRok C M0 θ1 base O csT w0 sr) : SRok C M0 θ base O csT w0 sr := by
  have one : ∀ m, OneOK C M0 θ1 base O csT w0 m → OneOK C M0 θ base O csT w0 m := by
    rintro m ⟨θ', dep', f', cs', w', h1, h2, h3, h4⟩
    exact ⟨θ', dep', f', cs', w', h1, h2, Th.le_trans hle h3, h4⟩
  cases sr with
  | one m => exact one m h
  | many ms => obtain ⟨m, h1, h2⟩ := h; exact ⟨m, h1, one m h2⟩
  | done g v s =>
    obtain ⟨θ', f', w', v', h1, h2, h3, h4, h5, h6, h7⟩ := h
    exact ⟨θ', f', w', v', h1, h2, h3, h4, h5, Th.le_trans hle h6, h7⟩

theorem new_world {lo : Nat} {h : Tr ABlk} (W : WR θ lo base h w) {b : Nat} {x : ABlk} {o : Obj} (h1 : h.get b = none) (hB : ∀ θ', θ.le θ' → BR θ' x ⟨w.heap.size, 0, 0⟩ (some o)) :
    WR (θ.upd b ⟨w.heap.size, 0, 0⟩) lo base (h.set b x) (w.alloc o) ∧ Ext θ (θ.upd b ⟨w.heap.size, 0, 0⟩) base h (h.set b x) w (w.alloc o) ∧ (θ.upd b ⟨w.heap.size, 0, 0⟩) b = some ⟨w.heap.size, 0, 0⟩ := by
  have hθ := W.none_of_new h1
  have hle := Th.le_upd (L := ⟨w.heap.size, 0, 0⟩) hθ
  refine ⟨(W.pend hθ x).made hθ (by rw [Tr.get_set, if_pos rfl]) o 0 (hB _ hle), ⟨hle, ?_, (Below.refl _ _).alloc W.size _⟩, Th.upd_self _ _ _⟩
  intro c y q1 q2
  have hne : c ≠ b := by intro e; rw [e, h1] at q2; cases q2
  exact ⟨by rw [Tr.get_set, if_neg hne]; exact q2, by simp [Th.upd, hne, q1]⟩

/-- the call of the function that is ranged over -/
theorem range_call (hC : CfgOK C) (hbig : BigOK C big) {sr : SR} {g : Operand} {ps : Array Tmp} {a b : Code} {k' : List Item} {θ1 : Th} {s1 : St} {w1 : World} {lp _d : Nat} {mk : List ADef} {mark : List Deferred} {L _Ld : Loc}
    (R : MR C θ base dep O csT ⟨fr, callers, s⟩ f cs w) (hm : fr.mode = .run) (gm : f.mode = .run) (T : TR θ fr.tmps fr.nt f.tmps) (e1 : f.todo = .code (.rangeFunc g ps a b) :: k') (e3 : ItsR θ kk k') (hw : Waits fr)
    (W1 : WR θ1 C.lo base s1.heap w1) (E1 : Ext θ θ1 base s.heap s1.heap w w1) (hL : θ1 lp = some L) (hmk : DRs θ1 mk mark)
    (hel : (Instr.enterLoop f.fn f.tmps ps a b f.roundOf).run C.P w = .ok (L.cb, mark) w1)
    (h : (match eval fr.tmps g with
      | some (.func g first captured) => applyOut C big { fr with todo := .inRange lp :: kk, defers := mk ++ fr.defers } callers (callFn C g (first ++ ([.yield lp] ++ captured)) s1)
      | _ => none) = some sr) : SRok C (lone f cs w) θ base O csT w sr := by
  have hev : f.eval = ρ f.tmps := by funext y; cases y <;> rfl
  split at h
  · rename_i g' first captured hg
    have hv := eval_sound (T.mono E1.le) hg
    simp only [VR] at hv
    obtain ⟨a', b', g1, g2, g3⟩ := hv
    cases hcf : callFn C g' (first ++ ([.yield lp] ++ captured)) s1 with
    | none => rw [hcf] at h; simp [applyOut] at h
    | some out =>
      rw [hcf] at h
      have hA : VRs θ1 (first ++ ([.yield lp] ++ captured)) ((a' ++ #[Value.func (.yield L.cb) #[] #[]]) ++ b').toList := by
        rw [Array.toList_append, Array.toList_append, List.append_assoc]
        exact VRs.append g2 (VRs.append (VRs.cons (by simp only [VR]; exact ⟨L, hL, rfl⟩) VRs.nil) g3)
      obtain ⟨e4, e5⟩ := callFn_sound (w := w1) hC hA hcf
      subst e4
      have F := R.cur.ext E1 hw
      have R1 : MR C θ1 base dep O csT ⟨{ fr with todo := .inRange lp :: kk, defers := mk ++ fr.defers }, callers, s1⟩ { f with todo := .inRangeFunc L.cb :: k', defers := mark ++ f.defers } cs w1 := by
        refine ⟨W1, ⟨F.fn, F.kind, F.rnd, DRs.append hmk F.defs, ?_⟩, R.callers.ext E1, out_ext R.out E1⟩
        rw [show ({ fr with todo := .inRange lp :: kk, defers := mk ++ fr.defers } : AFr).mode = fr.mode from rfl, hm]
        exact ⟨gm, .inl ⟨T.mono E1.le, .cons (.inRange _ _ hL) (e3.mono E1.le)⟩⟩
      have hx : (do let d ← resolve f.eval { callee := .value g, args := #[.const (.func (.yield L.cb) #[] #[])], argTypes := #[] } 0; invoke d.target d.args : Sem Next) = callFunc g' ((a' ++ #[Value.func (.yield L.cb) #[] #[]]) ++ b') := by
        have em : (#[Operand.const (Value.func (.yield L.cb) #[] #[])]).map (ρ f.tmps) = #[Value.func (.yield L.cb) #[] #[]] := by simp [ρ]
        rw [hev]
        simp only [resolve, g1, Deferred.ofValue, em]
        rfl
      refine SRok.weaken E1.le (applyOut_sound (fra := { fr with todo := .inRange lp :: kk, defers := mk ++ fr.defers }) hC hbig R1 hm (waits_plain (by intro _ _ _ _ _ _ e; cases e)) (fun w' hb => E1.below.trans hb) rfl rfl ?_ (fun fr' cs' w' hap => .one (st_rangeFunc gm e1 hel hx hap)) (fun _ _ _ _ e => by cases e) h)
      exact ⟨θ1, w1, _, e5, ⟨_, rfl, hA⟩, W1, Ext.refl _ _ _ _⟩
  · cases h
end
end Go.AM

namespace Go.AM
open Go.RowKit
section
variable {C : Cfg} {θ θ' : Th} {base : Nat} {s s' : St} {w w1 : World} {tm tmL : Tr AVal} {nt : Nat} {ts : Array Value} {v : AVal} {v' : Value} {dep dep' : Nat → Option Nat} {n k : Nat}
  {O : Nat → ABlk → Prop} {csT : List Frame} {fr fr1 : AFr} {callers : List AFr} {f : Frame} {cs : List Frame} {kk : List AItem} {big : FuncId → List AVal → St → Option (Option (AVal × St))} {M0 : Machine} {w0 : World}

theorem stepRange_sound (hC : CfgOK C) (hbig : BigOK C big) {sr : SR} {g : Operand} {ps : Array Tmp} {a b : Code} (R : MR C θ base dep O csT ⟨fr, callers, s⟩ f cs w) (hm : fr.mode = .run) (ht : fr.todo = .code (.rangeFunc g ps a b) :: kk)
    (h : stepRange C big fr callers s g ps a b kk = some sr) : SRok C (lone f cs w) θ base O csT w sr := by
  have hnd : ∀ ops bf done rest pend k, fr.todo ≠ .inDraw ops bf done rest pend :: k := by rw [ht]; intro _ _ _ _ _ _ e; cases e
  obtain ⟨gm, T, I⟩ := R.cur.plain hm hnd
  simp only at I T
  rw [ht] at I
  obtain ⟨x, k', e1, e2, e3⟩ := I
  cases e2 with
  | code _ =>
    have hrn := R.cur.rnd
    rw [show (AM.cur ⟨fr, callers, s⟩) = fr from rfl] at hrn
    have hfn : f.fn = fr.fn := R.cur.fn
    unfold stepRange at h
    simp only at h
    split at h
    · rename_i l0 hr
      rw [hr] at hrn
      obtain ⟨hdf, L0, hL0, hr'⟩ := hrn
      split at h
      · rename_i q1 q2 q3 q4 q5 q6 q7 q8 d0 hb0
        obtain ⟨ts0, Ld, k1, k2, k3⟩ := R.W.blk _ _ _ hb0 hL0
        obtain ⟨h1, h2, h3⟩ := newBlk_some h
        obtain ⟨w2, w3, w4⟩ := new_world (o := .loop { state := .ready, pending := none, fn := fr.fn, tmps := f.tmps, params := ps, assign := a, body := b, defers := Ld.cb }) R.W h1 (x := .loop .ready none fr.fn fr.tmps fr.nt ps.toList a b d0)
          (fun θ' hle => ⟨f.tmps, Ld, hle _ _ k1, T.mono hle, by simp⟩)
        have hel := run_enterLoop_inner (P := C.P) k3 f.fn f.tmps ps a b
        rw [← hr', hfn] at hel
        exact range_call (mk := []) (mark := []) (L := ⟨w.heap.size, 0, 0⟩) (_Ld := Ld) (_d := d0) hC hbig R hm gm T e1 e3 (waits_plain hnd) w2 w3 w4 rfl (by rw [hfn]; exact hel) h3
      · cases h
    · rename_i hr
      rw [hr] at hrn
      obtain ⟨h1, h2, h3⟩ := newBlk_some h
      obtain ⟨w2, w3, w4⟩ := new_world (o := .deferred (some [])) R.W h1 (x := .deferred (some [])) (fun θ' hle => ⟨some [], rfl, rfl⟩)
      obtain ⟨h4, h5, h6⟩ := newBlk_some h3
      obtain ⟨w5, w6, w7⟩ := new_world (o := .loop { state := .ready, pending := none, fn := fr.fn, tmps := f.tmps, params := ps, assign := a, body := b, defers := w.heap.size }) w2 h4 (x := .loop .ready none fr.fn fr.tmps fr.nt ps.toList a b s.next)
        (fun θ' hle => ⟨f.tmps, _, hle _ _ w4, (T.mono w3.le).mono hle, by simp⟩)
      have hel := run_enterLoop_outer (P := C.P) (w := w) f.fn f.tmps ps a b
      have hsz : (w.alloc (.deferred (some []))).heap.size = w.heap.size + 1 := by simp
      rw [← hrn, hfn] at hel
      refine range_call (mk := [.collected s.next]) (mark := [{ target := .collected w.heap.size, args := #[] }]) (L := ⟨(w.alloc (.deferred (some []))).heap.size, 0, 0⟩) (_Ld := ⟨w.heap.size, 0, 0⟩) (_d := s.next) hC hbig R hm gm T e1 e3 (waits_plain hnd) w5 (w3.trans w6) w7 ⟨_, [], rfl, ⟨_, w6.le _ _ w4, rfl⟩, rfl⟩ ?_ h6
      rw [hfn]
      show _ = Result.ok ((w.alloc (.deferred (some []))).heap.size, _) _
      rw [hsz]
      exact hel
end
end Go.AM

namespace Go.AM
open Go.RowKit
section
variable {C : Cfg} {θ θ' : Th} {base : Nat} {s s' : St} {w w1 : World} {tm tmL : Tr AVal} {nt : Nat} {ts : Array Value} {v : AVal} {v' : Value} {dep dep' : Nat → Option Nat} {n k : Nat}
  {O : Nat → ABlk → Prop} {csT : List Frame} {fr fr1 : AFr} {callers : List AFr} {f : Frame} {cs : List Frame} {kk : List AItem} {big : FuncId → List AVal → St → Option (Option (AVal × St))} {M0 : Machine} {w0 : World} {m : AM}

theorem step_sound (hC : CfgOK C) (hmix : C.P.follows .mixedOrders = true) (hbig : BigOK C big) {sr : SR} (R : MR C θ base dep O csT m f cs w) (h : AM.step C big m = some sr) : SRok C (lone f cs w) θ base O csT w sr := by
  obtain ⟨fr, callers, st⟩ := m
  unfold AM.step at h
  simp only at h
  split at h
  · rename_i hm
    exact stepRet_sound hC R hm h
  · rename_i hm
    split at h
    · rename_i ht
      have hnd : ∀ ops bf done rest pend k, fr.todo ≠ .inDraw ops bf done rest pend :: k := by rw [ht]; intro _ _ _ _ _ _ e; cases e
      obtain ⟨gm, T, I⟩ := R.cur.plain hm hnd
      simp only at I T
      rw [ht] at I
      exact leave_sound R hm gm T (.inl ⟨I, rfl⟩) h
    · rename_i x k ht
      cases x with
      | code c =>
        simp only at h
        by_cases hr : ∃ g ps a b, c = .rangeFunc g ps a b
        · obtain ⟨g, ps, a, b, rfl⟩ := hr
          exact stepRange_sound hC hbig R hm ht h
        · exact stepCode_sound hC hmix (fun g ps a b e => hr ⟨g, ps, a, b, e⟩) R hm ht h
      | inBlock id =>
        have hnd : ∀ ops bf done rest pend k, fr.todo ≠ .inDraw ops bf done rest pend :: k := by rw [ht]; intro _ _ _ _ _ _ e; cases e
        obtain ⟨gm, T, I⟩ := R.cur.plain hm hnd
        simp only at I T h
        rw [ht] at I
        obtain ⟨x, k', e1, e2, e3⟩ := I
        cases e2
        cases h
        exact .go R hm gm T e3 (st_inBlock gm e1)
      | inScope c =>
        have hnd : ∀ ops bf done rest pend k, fr.todo ≠ .inDraw ops bf done rest pend :: k := by rw [ht]; intro _ _ _ _ _ _ e; cases e
        obtain ⟨gm, T, I⟩ := R.cur.plain hm hnd
        simp only at I T h
        rw [ht] at I
        obtain ⟨x, k', e1, e2, e3⟩ := I
        cases e2
        cases h
        exact .go R hm gm T e3 (st_inScope gm e1)
      | inLoop c =>
        have hnd : ∀ ops bf done rest pend k, fr.todo ≠ .inDraw ops bf done rest pend :: k := by rw [ht]; intro _ _ _ _ _ _ e; cases e
        obtain ⟨gm, T, I⟩ := R.cur.plain hm hnd
        simp only at I T h
        rw [ht] at I
        obtain ⟨x, k', e1, e2, e3⟩ := I
        cases e2
        cases h
        exact .go R hm gm T (.cons (.code c) (.cons (.inLoop c) e3)) (st_inLoop gm e1)
      | inReg ops rest =>
        simp only at h
        cases rest with
        | nil =>
          have hnd : ∀ ops bf done rest pend k, fr.todo ≠ .inDraw ops bf done rest pend :: k := by rw [ht]; intro _ _ _ _ _ _ e; cases e
          obtain ⟨gm, T, I⟩ := R.cur.plain hm hnd
          simp only at I T h
          rw [ht] at I
          obtain ⟨x, k', e1, e2, e3⟩ := I
          cases e2 with
          | inReg _ _ l hl =>
            cases l with
            | cons i l => simp at hl
            | nil =>
              cases h
              exact .go R hm gm T e3 (st_regionEnd gm e1)
        | cons o rest => exact stepText_sound hC hbig R hm ht h
      | inDraw ops bf done rest pend =>
        simp only at h
        cases pend with
        | none => exact stepDraw_sound hC hbig R hm ht h
        | some j =>
          simp only at h
          split at h
          · rename_i bj hb
            split at h
            · rename_i hc
              cases h
              rw [Bool.and_eq_true] at hc
              exact step_recheck R hm ht hc.1 hb hc.2
            · cases h
          · cases h
      | inRange l => cases h
      | endRange l => exact step_endRange R hm ht h
      | beginRound =>
        simp only at h
        split at h
        · rename_i l hr
          exact step_beginRound R hm ht hr h
        · cases h
end
end Go.AM

namespace Go.AM
open Go.RowKit
section
variable {C : Cfg} {h0 : Tr ABlk} {s s' : St} {big : FuncId → List AVal → St → Option (Option (AVal × St))} {o : Out}

/-- the log tells all that has changed since h0 -/
def Inv (h0 : Tr ABlk) (s : St) : Prop := ∀ b, s.heap.get b = finalOf (h0.get b) b s.log
theorem Inv.set (h : Inv h0 s) (b : Nat) (x : ABlk) : Inv h0 (s.set b x) := by
  intro c
  show (s.heap.set b x).get c = finalOf (h0.get c) c ((b, x) :: s.log)
  rw [Tr.get_set]
  unfold finalOf
  by_cases e : c = b
  · rw [if_pos e, nbeq_true e.symm]
  · rw [if_neg e, nbeq_false (fun e' => e e'.symm)]
    exact h c
theorem Inv.next {n : Nat} (h : Inv h0 s) : Inv h0 { s with next := n } := h
def OutInv (h0 : Tr ABlk) : Out → Prop
  | .val _ s => Inv h0 s
  | .enter _ _ s => Inv h0 s
  | .round _ _ _ _ _ _ s => Inv h0 s
  | .defer _ s => Inv h0 s
  | .many l => ∀ p ∈ l, Inv h0 p.2

theorem val_inv {v : Option AVal} (h : val v s = some o) (hi : Inv h0 s) : OutInv h0 o := by
  unfold val at h
  split at h
  · cases h; exact hi
  · cases h
theorem put_inv {x : ABlk} {b : Nat} {v : AVal} (h : s.put b x (fun s => some (Out.val v s)) = some o) (hi : Inv h0 s) : OutInv h0 o := by
  rw [put_eq] at h
  cases h
  exact hi.set _ _
theorem newBlk_inv {x : ABlk} {v : Nat → AVal} (h : newBlk C s x none (fun b s => some (Out.val (v b) s)) = some o) (hi : Inv h0 s) : OutInv h0 o := by
  obtain ⟨_, _, h⟩ := newBlk_some h
  cases h
  exact hi.set _ _
theorem newRow_inv {e : TypeId} {vs : List AVal} {v : Nat → AVal} (h : AM.newRow C s e vs none (fun b s => some (Out.val (v b) s)) = some o) (hi : Inv h0 s) : OutInv h0 o := by
  obtain ⟨_, _, h⟩ := newRow_some h
  cases h
  exact hi.set _ _
theorem storeCells_inv {b off : Nat} {vs : List AVal} {v : AVal} (h : AM.storeCells C s b off vs none (fun s => some (Out.val v s)) = some o) (hi : Inv h0 s) : OutInv h0 o := by
  rcases storeCells_some h with ⟨_, h⟩ | ⟨_, _, _, _, _, _, _, h⟩
  · cases h; exact hi
  · cases h; exact hi.set _ _
theorem appendVs_inv {e size n : Nat} {x : AVal} {vs : List AVal} (h : appendVs C e size s x n vs = some o) (hi : Inv h0 s) : OutInv h0 o := by
  unfold appendVs at h
  split at h
  · split at h
    · exact newRow_inv h hi
    · cases h
  · split at h
    · cases h
    · split at h
      · exact storeCells_inv h hi
      · obtain ⟨e', k, t, _, h⟩ := getRow_some h
        split at h
        · cases h
        · split at h
          · rw [put_eq, Tr.setList_eq, strictN_eq] at h
            exact newBlk_inv h (hi.set _ _)
          · split at h
            · rw [put_eq] at h
              exact newRow_inv h (hi.set _ _)
            · cases h
  · cases h
theorem opAppend_inv {t0 t1 : TypeId} {x y : AVal} (h : opAppend C t0 t1 s x y = some o) (hi : Inv h0 s) : OutInv h0 o := by
  unfold opAppend at h
  repeat' split at h
  all_goals first | (cases h; done) | (cases h; exact hi) | exact appendVs_inv h hi | exact newRow_inv h hi
theorem opClear_inv {t0 : TypeId} {x : AVal} (h : opClear C t0 s x = some o) (hi : Inv h0 s) : OutInv h0 o := by
  unfold opClear at h
  repeat' split at h
  all_goals first | (cases h; done) | (cases h; exact hi) | exact storeCells_inv h hi
theorem opLen_inv {t : Option TypeId} {x : AVal} (h : opLen C t s x = some o) (hi : Inv h0 s) : OutInv h0 o := by
  unfold opLen at h
  repeat' split at h
  all_goals first | (cases h; done) | (cases h; exact hi)
theorem opRecover_inv {fr : AFr} {callers : List AFr} (h : opRecover fr callers s = some o) (hi : Inv h0 s) : OutInv h0 o := by
  unfold opRecover at h
  repeat' split at h
  all_goals first | (cases h; done) | (cases h; exact hi)
theorem opBuiltin_inv {b : Builtin} {ats : Array TypeId} {args : List AVal} {fr : AFr} {callers : List AFr} (h : opBuiltin C b ats args fr callers s = some o) (hi : Inv h0 s) : OutInv h0 o := by
  unfold opBuiltin at h
  repeat' split at h
  all_goals first | (cases h; done) | (cases h; exact hi) | exact opAppend_inv h hi | exact opClear_inv h hi | exact opLen_inv h hi | exact opRecover_inv h hi | exact val_inv h hi
theorem onlyVal_inv {r : Res} (hr : ∀ o, r = some o → OutInv h0 o) (h : onlyVal r = some o) : OutInv h0 o := by
  unfold onlyVal at h
  split at h
  · cases h; exact hr _ rfl
  · cases h
theorem callFn_inv {f : FuncId} {args : List AVal} (h : callFn C f args s = some o) (hi : Inv h0 s) : OutInv h0 o := by
  unfold callFn at h
  repeat' split at h
  all_goals first | (cases h; done) | (cases h; exact hi)
theorem opCall_inv {c : Call} {tm : Tr AVal} {fr : AFr} {callers : List AFr} (h : opCall C c tm fr callers s = some o) (hi : Inv h0 s) : OutInv h0 o := by
  unfold opCall at h
  repeat' split at h
  all_goals first | (cases h; done) | (cases h; exact hi) | exact callFn_inv h hi | exact onlyVal_inv (fun o ho => opBuiltin_inv ho hi) h
theorem opDefer_inv {c : Call} {tm : Tr AVal} (h : opDefer c tm s = some o) (hi : Inv h0 s) : OutInv h0 o := by
  unfold opDefer at h
  repeat' split at h
  all_goals first | (cases h; done) | (cases h; exact hi)
theorem opNext_inv {it : Option AVal} {b : Bool} (h : opNext C it b s = some o) (hi : Inv h0 s) : OutInv h0 o := by
  unfold opNext at h
  split at h
  · split at h
    · cases h
    · split at h
      · repeat' split at h
        all_goals first | (cases h; done) | (cases h; exact hi) | exact put_inv h hi
      · cases h; exact hi
      · split at h
        · split at h
          · split at h
            · rw [strictN_eq] at h; cases h; exact hi
            · unfold nextOne at h
              rw [strictN_eq, put_eq] at h
              cases h
              exact hi.set _ _
            · cases h
              intro p hp
              rw [List.mem_map] at hp
              obtain ⟨e, _, rfl⟩ := hp
              unfold nextOne
              rw [strictN_eq, put_eq]
              exact hi.set _ _
          · cases h
        · cases h
      · cases h
  · cases h
theorem opBuild_inv {t : TypeId} {ps : Array (Nat × Operand)} {tm : Tr AVal} (h : opBuild C t ps tm s = some o) (hi : Inv h0 s) : OutInv h0 o := by
  unfold opBuild at h
  repeat' split at h
  all_goals first | (cases h; done) | (cases h; exact hi)
theorem opBuildSlice_inv {t : TypeId} {n : Nat} {ps : Array (Nat × Operand)} {tm : Tr AVal} (h : opBuildSlice C t n ps tm s = some o) (hi : Inv h0 s) : OutInv h0 o := by
  unfold opBuildSlice at h
  repeat' split at h
  all_goals first | (cases h; done) | exact newRow_inv h hi
theorem opAlloc_inv {e : TypeId} (h : opAlloc C e s = some o) (hi : Inv h0 s) : OutInv h0 o := by
  unfold opAlloc at h
  split at h
  · exact newRow_inv h hi
  · cases h
theorem opBox_inv {e : TypeId} {x : Option AVal} (h : opBox C e x s = some o) (hi : Inv h0 s) : OutInv h0 o := by
  unfold opBox at h
  split at h
  · exact newRow_inv h hi
  · cases h
theorem opLoad_inv {t : TypeId} {x : Option AVal} (h : opLoad C t x s = some o) (hi : Inv h0 s) : OutInv h0 o := by
  unfold opLoad at h
  split at h
  · exact val_inv h hi
  · cases h
theorem opStore_inv {t : TypeId} {a x : Option AVal} (h : opStore C t a x s = some o) (hi : Inv h0 s) : OutInv h0 o := by
  unfold opStore at h
  repeat' split at h
  all_goals first | (cases h; done) | exact storeCells_inv h hi
theorem opNil_inv {x : Option AVal} (h : opNil x s = some o) (hi : Inv h0 s) : OutInv h0 o := by
  unfold opNil at h
  repeat' split at h
  all_goals first | (cases h; done) | (cases h; exact hi)
theorem opBin_inv {op : BinOp} {t : TypeId} {a b : Operand} {x y : Option AVal} (h : opBin C op t a b x y s = some o) (hi : Inv h0 s) : OutInv h0 o := by
  unfold opBin at h
  repeat' split at h
  all_goals first | (cases h; done) | exact val_inv h hi
theorem opUn_inv {op : UnOp} {x : Option AVal} (h : opUn op x s = some o) (hi : Inv h0 s) : OutInv h0 o := by
  unfold opUn at h
  repeat' split at h
  all_goals first | (cases h; done) | (cases h; exact hi)
theorem opConvert_inv {a b : TypeId} {x : Option AVal} (h : opConvert C a b x s = some o) (hi : Inv h0 s) : OutInv h0 o := by
  unfold opConvert at h
  repeat' split at h
  all_goals first | (cases h; done) | (cases h; exact hi)
theorem opMakeFunc_inv {fn : Fn} {a b : Array Operand} {tm : Tr AVal} (h : opMakeFunc fn a b tm s = some o) (hi : Inv h0 s) : OutInv h0 o := by
  unfold opMakeFunc at h
  repeat' split at h
  all_goals first | (cases h; done) | (cases h; exact hi)
theorem opMakeMap_inv {r : Option Operand} (h : opMakeMap C r s = some o) (hi : Inv h0 s) : OutInv h0 o := by
  unfold opMakeMap at h
  split at h
  · exact newBlk_inv h hi
  · cases h
theorem opMakeSlice_inv {t : TypeId} {l c : Option AVal} (h : opMakeSlice C t l c s = some o) (hi : Inv h0 s) : OutInv h0 o := by
  unfold opMakeSlice at h
  repeat' split at h
  all_goals first | (cases h; done) | exact newRow_inv h hi
theorem opt_inv {tm : Tr AVal} {x : Option Operand} {k : Option AVal → Res} (hk : ∀ y, k y = some o → OutInv h0 o) (h : opt tm x none k = some o) : OutInv h0 o := by
  unfold opt at h
  split at h
  · exact hk _ h
  · split at h
    · exact hk _ h
    · cases h
theorem opSlice_inv {t : TypeId} {x : Option AVal} {a b c : Option Operand} {tm : Tr AVal} (h : opSlice C t x a b c tm s = some o) (hi : Inv h0 s) : OutInv h0 o := by
  unfold opSlice at h
  refine opt_inv (fun y h => opt_inv (fun z h => opt_inv (fun u h => ?_) h) h) h
  repeat' split at h
  all_goals first | (cases h; done) | (cases h; exact hi)
theorem opFieldAddr_inv {t : TypeId} {x : Option AVal} {i : Nat} (h : opFieldAddr C t x i s = some o) (hi : Inv h0 s) : OutInv h0 o := by
  unfold opFieldAddr at h
  repeat' split at h
  all_goals first | (cases h; done) | (cases h; exact hi)
theorem opIndexAddr_inv {t : TypeId} {x i : Option AVal} (h : opIndexAddr C t x i s = some o) (hi : Inv h0 s) : OutInv h0 o := by
  unfold opIndexAddr at h
  repeat' split at h
  all_goals first | (cases h; done) | (cases h; exact hi)
theorem opIndex_inv {t : TypeId} {x i : Option AVal} (h : opIndex C t x i s = some o) (hi : Inv h0 s) : OutInv h0 o := by
  unfold opIndex at h
  repeat' split at h
  all_goals first | (cases h; done) | (cases h; exact hi) | exact val_inv h hi
theorem opLookup_inv {t : TypeId} {x k : Option AVal} {ok : Bool} (h : opLookup C t x k ok s = some o) (hi : Inv h0 s) : OutInv h0 o := by
  unfold opLookup at h
  split at h
  · split at h
    · cases h
    · simp only at h
      repeat' split at h
      all_goals first | (cases h; done) | (cases h; exact hi)
  · cases h
theorem opMapUpdate_inv {t : TypeId} {m k x : Option AVal} (h : opMapUpdate C t m k x s = some o) (hi : Inv h0 s) : OutInv h0 o := by
  unfold opMapUpdate at h
  repeat' split at h
  all_goals first | (cases h; done) | exact put_inv h hi
theorem opMapEntry_inv {t : TypeId} {m k : Option AVal} (h : opMapEntry C t m k s = some o) (hi : Inv h0 s) : OutInv h0 o := by
  unfold opMapEntry at h
  repeat' split at h
  all_goals first | (cases h; done) | exact put_inv h hi
theorem opEntryStore_inv {m k x : Option AVal} (h : opEntryStore C m k x s = some o) (hi : Inv h0 s) : OutInv h0 o := by
  unfold opEntryStore at h
  repeat' split at h
  all_goals first | (cases h; done) | exact put_inv h hi
theorem opRange_inv {t : TypeId} {x : Option AVal} (h : opRange C t x s = some o) (hi : Inv h0 s) : OutInv h0 o := by
  unfold opRange at h
  repeat' split at h
  all_goals first | (cases h; done) | exact newBlk_inv h hi
theorem opEntry_inv {x : Option AVal} (h : opEntry x s = some o) (hi : Inv h0 s) : OutInv h0 o := by
  unfold opEntry at h
  repeat' split at h
  all_goals first | (cases h; done) | (cases h; exact hi)
theorem opExtract_inv {x : Option AVal} {i : Nat} (h : opExtract x i s = some o) (hi : Inv h0 s) : OutInv h0 o := by
  unfold opExtract at h
  repeat' split at h
  all_goals first | (cases h; done) | (cases h; exact hi)
theorem opPick_inv {c a b : Option AVal} (h : opPick c a b s = some o) (hi : Inv h0 s) : OutInv h0 o := by
  unfold opPick at h
  repeat' split at h
  all_goals first | (cases h; done) | (cases h; exact hi)
theorem aop1_inv {op : Op} {tm : Tr AVal} (h : aop1 C op tm s = some o) (hi : Inv h0 s) : OutInv h0 o := by
  cases op
  all_goals first
    | (simp only [aop1] at h; cases h; done)
    | exact val_inv h hi
    | exact opPick_inv h hi
    | exact opAlloc_inv h hi
    | exact opBox_inv h hi
    | exact opBuild_inv h hi
    | exact opBuildSlice_inv h hi
    | exact opLoad_inv h hi
    | exact opStore_inv h hi
    | exact opNil_inv h hi
    | exact opBin_inv h hi
    | exact opUn_inv h hi
    | exact opConvert_inv h hi
    | exact opMakeFunc_inv h hi
    | exact opMakeMap_inv h hi
    | exact opMakeSlice_inv h hi
    | exact opSlice_inv h hi
    | exact opFieldAddr_inv h hi
    | exact opIndexAddr_inv h hi
    | exact opIndex_inv h hi
    | exact opLookup_inv h hi
    | exact opMapUpdate_inv h hi
    | exact opMapEntry_inv h hi
    | exact opEntryStore_inv h hi
    | exact opRange_inv h hi
    | exact opEntry_inv h hi
    | exact opExtract_inv h hi
theorem aop_inv {op : Op} {tm : Tr AVal} {fr : AFr} {callers : List AFr} (h : aop C op tm fr callers s = some o) (hi : Inv h0 s) : OutInv h0 o := by
  unfold aop at h
  split at h
  · exact opCall_inv h hi
  · exact opDefer_inv h hi
  · exact opNext_inv h hi
  · exact onlyVal_inv (fun o ho => aop1_inv ho hi) h
end
end Go.AM

namespace Go.AM
open Go.RowKit
section
variable {C : Cfg} {h0 : Tr ABlk} {s s' : St} {big : FuncId → List AVal → St → Option (Option (AVal × St))} {fr : AFr} {callers : List AFr} {sr : SR}

def SRInv (h0 : Tr ABlk) : SR → Prop
  | .one m => Inv h0 m.st
  | .many l => ∀ m ∈ l, Inv h0 m.st
  | .done _ _ s => Inv h0 s
def BigInv (big : FuncId → List AVal → St → Option (Option (AVal × St))) : Prop := ∀ f args s v s' h0, big f args s = some (some (v, s')) → Inv h0 s → Inv h0 s'

theorem finish_k {α : Type} {v : AVal} {k : AFr → Option α} {r : α} (h : AM.finish fr v none k = some r) : ∃ fr', k fr' = some r := by
  unfold AM.finish at h
  split at h
  · rcases putD_some h with ⟨_, h⟩ | ⟨_, _, _, h⟩
    · exact ⟨_, h⟩
    · exact ⟨_, h⟩
  · split at h
    · rcases putD_some h with ⟨_, h⟩ | ⟨_, _, _, h⟩
      · rw [strictN_eq] at h; exact ⟨_, h⟩
      · rw [strictN_eq] at h; exact ⟨_, h⟩
    · cases h
  · exact ⟨_, h⟩
  · exact ⟨_, h⟩
  · cases h
theorem finish_inv {v : AVal} {callers : List AFr} (h : AM.finish fr v none (fun fr => some (SR.one { cur := fr, callers, st := s })) = some sr) (hi : Inv h0 s) : SRInv h0 sr := by
  obtain ⟨fr', h⟩ := finish_k h
  cases h
  exact hi
theorem finishAll_inv {l : List (AVal × St)} {ms : List AM} (h : finishAll fr callers l = some ms) (hi : ∀ p ∈ l, Inv h0 p.2) : ∀ m ∈ ms, Inv h0 m.st := by
  induction l generalizing ms with
  | nil => simp [finishAll] at h; subst h; simp
  | cons p r ih =>
    obtain ⟨v, s⟩ := p
    unfold finishAll at h
    split at h
    · rename_i m hm
      split at h
      · rename_i l hl
        cases h
        intro x hx
        rcases List.mem_cons.1 hx with rfl | hx
        · obtain ⟨fr', h⟩ := finish_k hm
          cases h
          exact hi (v, s) (by simp)
        · exact ih hl (fun p hp => hi p (by simp [hp])) x hx
      · cases h
    · cases h
theorem enterFr_k {α : Type} {g : FuncId} {args : List AVal} {dfd : Bool} {k : AFr → Option α} {r : α} (h : enterFr C g args dfd none k = some r) : ∃ fr', k fr' = some r := by
  obtain ⟨_, _, _, _, h⟩ := enterFr_some h
  exact ⟨_, h⟩
theorem applyOut_inv {o : Res} (hb : BigInv big) (h : applyOut C big fr callers o = some sr) (ho : ∀ out, o = some out → OutInv h0 out) : SRInv h0 sr := by
  unfold applyOut at h
  split at h
  · exact finish_inv h (ho _ rfl)
  · rename_i f args s
    have hi : Inv h0 s := ho _ rfl
    split at h
    · obtain ⟨fr', h⟩ := enterFr_k h
      cases h
      exact hi
    · rename_i hbb
      exact finish_inv h (hb _ _ _ _ _ _ hbb hi)
    · cases h
  · have hi := ho _ rfl
    cases h
    exact hi
  · have hi := ho _ rfl
    split at h
    · cases h
    · exact finish_inv h hi
  · rename_i l
    have hi := ho _ rfl
    split at h
    · rename_i ms hms
      cases h
      exact finishAll_inv hms hi
    · cases h
  · cases h
theorem doReturn_inv {m : AM} {v : AVal} (h : doReturn m v = some sr) (hi : Inv h0 m.st) : SRInv h0 sr := by
  unfold doReturn at h
  split at h
  · split at h
    · cases h; exact hi
    · cases h
  · split at h
    · cases h; exact hi
    · exact finish_inv h hi
    · cases h
theorem leave_inv {jump : Option Code} (h : AM.leave C fr callers s jump = some sr) (hi : Inv h0 s) : SRInv h0 sr := by
  unfold AM.leave at h
  split at h
  · split at h
    · cases h; exact hi
    · cases h; exact hi
    · cases h
  · split at h
    · rw [put_eq] at h
      exact doReturn_inv h (hi.set _ _)
    · cases h
theorem stepRet_inv (h : stepRet C big fr callers s = some sr) (hi : Inv h0 s) : SRInv h0 sr := by
  unfold stepRet at h
  split at h
  · split at h
    · rw [put_eq] at h; cases h; exact hi.set _ _
    · cases h
  · split at h
    · rename_i f args s' he
      have := callFn_inv he hi
      obtain ⟨fr', h⟩ := enterFr_k h
      cases h
      exact this
    · cases h
  · split at h
    · split at h
      · exact doReturn_inv h hi
      · cases h
    · cases h
theorem stepRange_inv {g : Operand} {ps : Array Tmp} {a b : Code} {kk : List AItem} (hb : BigInv big) (h : stepRange C big fr callers s g ps a b kk = some sr) (hi : Inv h0 s) : SRInv h0 sr := by
  unfold stepRange at h
  simp only at h
  split at h
  · split at h
    · obtain ⟨_, _, h⟩ := newBlk_some h
      simp only at h
      split at h
      · exact applyOut_inv hb h fun o ho => callFn_inv ho (hi.set _ _)
      · cases h
    · cases h
  · obtain ⟨_, _, h⟩ := newBlk_some h
    obtain ⟨_, _, h⟩ := newBlk_some h
    simp only at h
    split at h
    · exact applyOut_inv hb h fun o ho => callFn_inv ho ((hi.set _ _).next.set _ _)
    · cases h
theorem stepDraw_inv {ops : Array Oper} {bf : List Nat} {done : Nat} {rest : List (Nat × Oper)} {kk : List AItem} (hb : BigInv big) (h : stepDraw C big fr callers s ops bf done rest kk = some sr) (hi : Inv h0 s) : SRInv h0 sr := by
  unfold stepDraw at h
  split at h
  · simp only at h
    split at h
    · split at h
      · rename_i v st hv
        have := aop_inv hv hi
        rcases putD_some h with ⟨_, h⟩ | ⟨_, _, _, h⟩ <;> (rw [strictN_eq] at h; cases h; exact this)
      · cases h
    · rcases putD_some h with ⟨_, h⟩ | ⟨_, _, _, h⟩ <;> (rw [strictN_eq] at h; cases h; exact hi)
    · cases h
  · split at h
    · cases h; exact hi
    · split at h
      · split at h
        · simp only at h
          split at h
          · exact applyOut_inv hb h fun o ho => aop_inv ho hi
          · exact finish_inv h hi
          · cases h
        · cases h
      · cases h
theorem stepCode_inv {c : Code} {kk : List AItem} (hb : BigInv big) (h : stepCode C big fr callers s c kk = some sr) (hi : Inv h0 s) : SRInv h0 sr := by
  unfold stepCode at h
  split at h
  all_goals first | exact leave_inv h hi | exact stepRange_inv hb h hi | (cases h; done) | (cases h; exact hi) | skip
  · split at h
    all_goals first | (cases h; done) | (cases h; exact hi)
  · split at h
    · cases h; exact hi
    · exact leave_inv h hi
  · split at h
    · cases h; exact hi
    · exact leave_inv h hi
  · split at h
    · cases h; exact hi
    · split at h
      · cases h; exact hi
      · cases h
theorem step_inv {m : AM} (hb : BigInv big) (h : AM.step C big m = some sr) (hi : Inv h0 m.st) : SRInv h0 sr := by
  obtain ⟨fr, callers, st⟩ := m
  unfold AM.step at h
  simp only at h
  split at h
  · exact stepRet_inv h hi
  · split at h
    · exact leave_inv h hi
    · split at h
      · exact stepCode_inv hb h hi
      · cases h; exact hi
      · cases h; exact hi
      · cases h; exact hi
      · split at h
        · cases h; exact hi
        · split at h
          · exact applyOut_inv hb h fun o ho => aop_inv ho hi
          · rcases putD_some h with ⟨_, h⟩ | ⟨_, _, _, h⟩ <;> (cases h; exact hi)
          · cases h
      · split at h
        · exact stepDraw_inv hb h hi
        · split at h
          · split at h
            · cases h; exact hi
            · cases h
          · cases h
      · cases h
      · split at h
        · split at h
          · cases h
          · rw [put_eq] at h; cases h; exact hi.set _ _
        · cases h
      · split at h
        · split at h
          · rw [put_eq] at h; cases h; exact hi.set _ _
          · cases h
        · cases h
end
end Go.AM

namespace Go.AM
open Go.RowKit
section
variable {C : Cfg} {θ θ' : Th} {base : Nat} {h0 h h' : Tr ABlk} {s s' : St} {w w1 : World}

theorem listBeq_eq2 {α : Type} {f : α → α → Bool} (hf : ∀ a b, f a b = true → a = b) : ∀ (l m : List α), listBeq f l m = true → l = m
  | [], [], _ => rfl
  | [], _ :: _, h => by simp [listBeq] at h
  | _ :: _, [], h => by simp [listBeq] at h
  | a :: x, b :: y, h => by
    unfold listBeq at h
    split at h
    · rename_i hab
      rw [hf _ _ hab, listBeq_eq2 hf _ _ h]
    · cases h
def optBeq : Option AVal → Option AVal → Bool
  | none, none => true
  | some a, some b => beqV 4 a b
  | _, _ => false
theorem trBeq_node (l r l' r' : Tr AVal) (v v' : Option AVal) : trBeq (.node l v r) (.node l' v' r') = (optBeq v v' && trBeq l l' && trBeq r r') := by
  cases v <;> cases v' <;> rfl
theorem trBeq_eq : ∀ (t u : Tr AVal), trBeq t u = true → t = u
  | .leaf, u, h => by
    cases u with
    | leaf => rfl
    | node _ _ _ => cases h
  | .node l v r, u, h => by
    cases u with
    | leaf => cases h
    | node l' v' r' =>
      rw [trBeq_node] at h
      simp only [Bool.and_eq_true] at h
      obtain ⟨⟨h1, h2⟩, h3⟩ := h
      rw [trBeq_eq l l' h2, trBeq_eq r r' h3]
      cases v <;> cases v' <;> first | rfl | (simp [optBeq] at h1; done) | skip
      rw [beqV_eq _ _ _ h1]
theorem blkBeq_eq {a b : ABlk} (h : blkBeq a b = true) : a = b := by
  unfold blkBeq at h
  split at h
  · rfl
  · simp only [Bool.and_eq_true] at h
    obtain ⟨⟨h1, h2⟩, h3⟩ := h
    rw [of_nbeq h1, of_nbeq h2, trBeq_eq _ _ h3]
  · simp only [Bool.and_eq_true] at h
    rw [of_nbeq h.1]
    congr 1
    refine listBeq_eq2 (fun x y hxy => ?_) _ _ h.2
    simp only [Bool.and_eq_true] at hxy
    obtain ⟨⟨h1, h2⟩, h3⟩ := hxy
    exact Prod.ext (beqV_eq _ _ _ h1) (Prod.ext (beqV_eq _ _ _ h2) (of_nbeq h3))
  · cases h

/-- h' tells no more than h, and just as much of what was there at the outset -/
def Dim (h0 h h' : Tr ABlk) : Prop := (∀ b, h'.get b = some .dead ∨ h'.get b = h.get b) ∧ ∀ b, h0.get b ≠ none → h'.get b = h.get b
theorem Dim.refl (h0 h : Tr ABlk) : Dim h0 h h := ⟨fun _ => .inr rfl, fun _ _ => rfl⟩
theorem Dim.trans {h1 h2 h3 : Tr ABlk} (a : Dim h0 h1 h2) (b : Dim h0 h2 h3) : Dim h0 h1 h3 := by
  refine ⟨fun x => ?_, fun x hx => (b.2 x hx).trans (a.2 x hx)⟩
  rcases b.1 x with e | e
  · exact .inl e
  · rw [e]; exact a.1 x
theorem WR.dim {lo : Nat} (W : WR θ lo base h w) (D : Dim h0 h h') : WR θ lo base h' w where
  blk := by
    intro b x L hb hL
    rcases D.1 b with e | e
    · rw [e] at hb; cases hb; trivial
    · exact W.blk b x L (e ▸ hb) hL
  own := by
    intro b x L hlo hb hL hx
    rcases D.1 b with e | e
    · rw [e] at hb; cases hb; exact absurd rfl hx
    · exact W.own b x L hlo (e ▸ hb) hL hx
  inj := by
    intro b x L b' x' L' hlo hb hL hx hb' hL' hx' e
    rcases D.1 b with e1 | e1
    · rw [e1] at hb; cases hb; exact absurd rfl hx
    · rcases D.1 b' with e2 | e2
      · rw [e2] at hb'; cases hb'; exact absurd rfl hx'
      · exact W.inj b x L b' x' L' hlo (e1 ▸ hb) hL hx (e2 ▸ hb') hL' hx' e
  lt := W.lt
  dom := by
    intro b L hL
    rcases D.1 b with e | e
    · rw [e]; simp
    · rw [e]; exact W.dom b L hL
  size := W.size

/-- a block that both know alike -/
def Met (h0 : Tr ABlk) (la lb : List (Nat × ABlk)) (b : Nat) (y : Option ABlk) : Prop :=
  ((y = some .dead ∨ y = finalOf (h0.get b) b la) ∧ (h0.get b ≠ none → y = finalOf (h0.get b) b la)) ∧ ((y = some .dead ∨ y = finalOf (h0.get b) b lb) ∧ (h0.get b ≠ none → y = finalOf (h0.get b) b lb))
theorem meetBlk_some {x y : Option ABlk} {z : ABlk} (h : meetBlk x y = some z) : x = some z ∧ y = some z := by
  unfold meetBlk at h
  split at h
  · split at h
    · rename_i hb
      cases h
      exact ⟨rfl, by rw [blkBeq_eq hb]⟩
    · cases h
  · cases h
theorem meetLog_spec {la lb : List (Nat × ABlk)} : ∀ (l acc r : List (Nat × ABlk)), meetLog h0 la lb l acc = some r → (∀ p ∈ acc, Met h0 la lb p.1 (some p.2)) →
    (∀ p ∈ r, Met h0 la lb p.1 (some p.2)) ∧ (∀ p ∈ acc, ∃ x, (p.1, x) ∈ r) ∧ ∀ p ∈ l, ∃ x, (p.1, x) ∈ r
  | [], acc, r, h, ha => by
    simp only [meetLog] at h
    cases h
    exact ⟨ha, fun p hp => ⟨p.2, hp⟩, fun p hp => by simp at hp⟩
  | (b, y) :: l, acc, r, h, ha => by
    simp only [meetLog] at h
    split at h
    · rename_i hany
      obtain ⟨h1, h2, h3⟩ := meetLog_spec l acc r h ha
      refine ⟨h1, h2, fun p hp => ?_⟩
      rcases List.mem_cons.1 hp with rfl | hp
      · rw [List.any_eq_true] at hany
        obtain ⟨q, hq, he⟩ := hany
        obtain ⟨x, hx⟩ := h2 q hq
        exact ⟨x, by rw [← of_nbeq he]; exact hx⟩
      · exact h3 p hp
    · split at h
      · rename_i x hx
        obtain ⟨e1, e2⟩ := meetBlk_some hx
        obtain ⟨h1, h2, h3⟩ := meetLog_spec l ((b, x) :: acc) r h (by
          intro p hp
          rcases List.mem_cons.1 hp with rfl | hp
          · exact ⟨⟨.inr e1.symm, fun _ => e1.symm⟩, ⟨.inr e2.symm, fun _ => e2.symm⟩⟩
          · exact ha p hp)
        refine ⟨h1, fun p hp => h2 p (by simp [hp]), fun p hp => ?_⟩
        rcases List.mem_cons.1 hp with rfl | hp
        · exact h2 (b, x) (by simp)
        · exact h3 p hp
      · split at h
        · rename_i hn
          obtain ⟨h1, h2, h3⟩ := meetLog_spec l ((b, .dead) :: acc) r h (by
            intro p hp
            rcases List.mem_cons.1 hp with rfl | hp
            · exact ⟨⟨.inl rfl, fun hh => absurd hn hh⟩, ⟨.inl rfl, fun hh => absurd hn hh⟩⟩
            · exact ha p hp)
          refine ⟨h1, fun p hp => h2 p (by simp [hp]), fun p hp => ?_⟩
          rcases List.mem_cons.1 hp with rfl | hp
          · exact h2 (b, .dead) (by simp)
          · exact h3 p hp
        · cases h
theorem finalOf_cases (o : Option ABlk) (b : Nat) : ∀ (l : List (Nat × ABlk)), (∃ x, (b, x) ∈ l ∧ finalOf o b l = some x) ∨ ((∀ x, (b, x) ∉ l) ∧ finalOf o b l = o)
  | [] => .inr ⟨by simp, rfl⟩
  | (c, x) :: r => by
    unfold finalOf
    by_cases e : c = b
    · rw [nbeq_true e]
      exact .inl ⟨x, by simp [e], rfl⟩
    · rw [nbeq_false e]
      rcases finalOf_cases o b r with ⟨y, h1, h2⟩ | ⟨h1, h2⟩
      · exact .inl ⟨y, by simp [h1], h2⟩
      · refine .inr ⟨fun y hy => ?_, h2⟩
        rcases List.mem_cons.1 hy with he | hy
        · cases he; exact e rfl
        · exact h1 y hy
theorem applyLog_eq {β : Type} (h : Tr ABlk) : ∀ (l : List (Nat × ABlk)) (k : Tr ABlk → β), applyLog h l k = k (applyLog h l id)
  | [], k => rfl
  | (b, x) :: r, k => by
    simp only [applyLog]
    rw [applyLog_eq h r fun h => h.setK b x k, applyLog_eq h r fun h => h.setK b x id, Tr.setK_eq, Tr.setK_eq]
    rfl
theorem applyLog_get (h : Tr ABlk) (c : Nat) : ∀ (l : List (Nat × ABlk)), (applyLog h l id).get c = finalOf (h.get c) c l
  | [] => rfl
  | (b, x) :: r => by
    simp only [applyLog]
    rw [applyLog_eq, Tr.setK_eq]
    show ((applyLog h r id).set b x).get c = _
    rw [Tr.get_set]
    unfold finalOf
    by_cases e : c = b
    · rw [if_pos e, nbeq_true e.symm]
    · rw [if_neg e, nbeq_false (fun e' => e e'.symm)]
      exact applyLog_get h c r

theorem merge_spec : ∀ (l : List (Option (AVal × St))) (v : AVal) (s : St), merge h0 l = some (v, s) → (∀ v' s', some (v', s') ∈ l → Inv h0 s') → Inv h0 s ∧ ∀ p ∈ l, ∃ s', p = some (v, s') ∧ Dim h0 s'.heap s.heap
  | [], v, s, h, _ => by simp [merge] at h
  | [x], v, s, h, hi => by
    simp only [merge] at h
    subst h
    exact ⟨hi v s (by simp), fun p hp => ⟨s, List.mem_singleton.1 hp, Dim.refl _ _⟩⟩
  | x :: y :: r, v, s, h, hi => by
    unfold merge at h
    split at h
    · rename_i v1 s1 v2 s2 hm
      obtain ⟨i2, h2⟩ := merge_spec (y :: r) v2 s2 hm fun v' s' hp => hi v' s' (by simp only [List.mem_cons] at hp ⊢; exact .inr hp)
      have i1 := hi v1 s1 (by simp)
      split at h
      · rename_i hv
        have hv := beqV_eq _ _ _ hv
        subst hv
        split at h
        · rename_i l hl
          rw [applyLog_eq, strictN_eq] at h
          cases h
          obtain ⟨m1, _, m3⟩ := meetLog_spec _ _ _ hl (by simp)
          have hmet : ∀ b, Met h0 s1.log s2.log b (finalOf (h0.get b) b l) := by
            intro b
            rcases finalOf_cases (h0.get b) b l with ⟨x, g1, g2⟩ | ⟨g1, g2⟩
            · rw [g2]; exact m1 _ g1
            · have n1 : finalOf (h0.get b) b s1.log = h0.get b := by
                rcases finalOf_cases (h0.get b) b s1.log with ⟨x, k1, _⟩ | ⟨_, k2⟩
                · obtain ⟨z, hz⟩ := m3 (b, x) (by simp [k1]); exact absurd hz (g1 z)
                · exact k2
              have n2 : finalOf (h0.get b) b s2.log = h0.get b := by
                rcases finalOf_cases (h0.get b) b s2.log with ⟨x, k1, _⟩ | ⟨_, k2⟩
                · obtain ⟨z, hz⟩ := m3 (b, x) (by simp [k1]); exact absurd hz (g1 z)
                · exact k2
              rw [g2]
              exact ⟨⟨.inr n1.symm, fun _ => n1.symm⟩, ⟨.inr n2.symm, fun _ => n2.symm⟩⟩
          have d1 : Dim h0 s1.heap (applyLog h0 l id) := by
            constructor
            · intro b; rw [applyLog_get, i1 b]; exact (hmet b).1.1
            · intro b hb; rw [applyLog_get, i1 b]; exact (hmet b).1.2 hb
          have d2 : Dim h0 s2.heap (applyLog h0 l id) := by
            constructor
            · intro b; rw [applyLog_get, i2 b]; exact (hmet b).2.1
            · intro b hb; rw [applyLog_get, i2 b]; exact (hmet b).2.2 hb
          refine ⟨fun b => applyLog_get h0 b l, fun p hp => ?_⟩
          rcases List.mem_cons.1 hp with rfl | hp
          · exact ⟨s1, rfl, d1⟩
          · obtain ⟨s', e, d⟩ := h2 p hp
            exact ⟨s', e, d.trans d2⟩
        · cases h
      · cases h
    · cases h

theorem explore_inv {big : Big} {g : FuncId} (hb : BigInv big) : ∀ (n : Nat) (m : AM) (v : AVal) (s : St), explore C big g h0 n m = some (v, s) → Inv h0 m.st → Inv h0 s
  | 0, m, v, s, h, _ => by cases h
  | n + 1, m, v, s, h, hi => by
    have h : (match AM.step C big m with
      | some (.one m) => explore C big g h0 n m
      | some (.done g' v s) => match Nat.beq g' g with | true => some (v, s) | false => none
      | some (.many l) => merge h0 (l.map (explore C big g h0 n))
      | none => none) = some (v, s) := h
    split at h
    · rename_i m' hs
      exact explore_inv hb n m' v s h (step_inv hb hs hi)
    · rename_i g' v' s' hs
      have := step_inv hb hs hi
      split at h
      · cases h; exact this
      · cases h
    · rename_i l hs
      have hl := step_inv hb hs hi
      refine (merge_spec _ _ _ h fun v' s' hp => ?_).1
      rw [List.mem_map] at hp
      obtain ⟨m', hm', he⟩ := hp
      exact explore_inv hb n m' v' s' he (hl m' hm')
    · cases h

variable {dep : Nat → Option Nat} {O : Nat → ABlk → Prop} {csT : List Frame} {f : Frame} {cs : List Frame} {M0 : Machine} {w0 : World}
/-- what the exploration tells is right -/
theorem explore_sound (hC : CfgOK C) (hmix : C.P.follows .mixedOrders = true) {big : Big} (hbig : BigOK C big) (hb : BigInv big) {g : FuncId} (hO : ∀ b x, O b x → h0.get b ≠ none) :
    ∀ (n : Nat) (m : AM) (v : AVal) (s : St) (θ : Th) (dep : Nat → Option Nat) (f : Frame) (cs : List Frame) (w : World), explore C big g h0 n m = some (v, s) → Inv h0 m.st → MR C θ base dep O csT m f cs w → SRok C (lone f cs w) θ base O csT w (.done g v s)
  | 0, m, v, s, θ, dep, f, cs, w, h, _, _ => by cases h
  | n + 1, m, v, s, θ, dep, f, cs, w, h, hi, R => by
    have h : (match AM.step C big m with
      | some (.one m) => explore C big g h0 n m
      | some (.done g' v s) => match Nat.beq g' g with | true => some (v, s) | false => none
      | some (.many l) => merge h0 (l.map (explore C big g h0 n))
      | none => none) = some (v, s) := h
    split at h
    · rename_i m' hs
      have hi' : Inv h0 m'.st := step_inv hb hs hi
      obtain ⟨θ', dep', f', cs', w', h1, h2, h3, h4⟩ := step_sound hC hmix hbig R hs
      exact SRok.after h1 h3 h4 (explore_sound hC hmix hbig hb hO n m' v s θ' dep' f' cs' w' h hi' h2)
    · rename_i g' v' s' hs
      have hsr := step_sound hC hmix hbig R hs
      split at h
      · rename_i hg
        cases h
        rw [← of_nbeq hg]
        exact hsr
      · cases h
    · rename_i l hs
      have hl : ∀ m ∈ l, Inv h0 m.st := step_inv hb hs hi
      obtain ⟨m', hm', θ', dep', f', cs', w', h1, h2, h3, h4⟩ := step_sound hC hmix hbig R hs
      obtain ⟨_, hsp⟩ := merge_spec _ _ _ h fun v' s' hp => by
        rw [List.mem_map] at hp
        obtain ⟨m', hm', he⟩ := hp
        exact explore_inv hb n m' v' s' he (hl m' hm')
      obtain ⟨s', e, D⟩ := hsp (explore C big g h0 n m') (List.mem_map.2 ⟨m', hm', rfl⟩)
      have hr := SRok.after h1 h3 h4 (explore_sound hC hmix hbig hb hO n m' v s' θ' dep' f' cs' w' e (hl m' hm') h2)
      obtain ⟨θ2, f2, w2, v2, k1, k2, k3, k4, k5, k6, k7, k8⟩ := hr
      exact ⟨θ2, f2, w2, v2, k1, k2, k3, k4, k5.dim D, k6, k7, fun b x hx => ⟨(k8 b x hx).1, by rw [D.2 b (hO b x hx)]; exact (k8 b x hx).2⟩⟩
    · cases h
end
end Go.AM
