/- A run of the fast machine tells what a call comes to. Without conditions. -/
import Derived.Test.YtkkieaphblcjjaaGreatG
import Derived.Test.YtkkieaphblcjjaaGreatE

namespace Go.AM

namespace Tr
variable {α β : Type}
theorem getB_eq (t : Tr α) (i : Nat) : t.getB (i + 1) = t.get i := rfl
theorem setB_eq (t : Tr α) (i : Nat) (x : α) (k : Tr α → β) : t.setB (i + 1) x k = k (t.set i x) := setB_cps t (i + 1) x k
end Tr
section
variable {β : Type}
theorem forceF_eq (v : AVal) (k : AVal → β) : v.forceF k = k v := by
  cases v
  case bool b => cases b <;> rfl
  case int kd n => exact strictI_eq n fun n => k (.int kd n)
  case ptr b o => exact (strictN_eq b fun b => strictN o fun o => k (.ptr b o)).trans (strictN_eq o fun o => k (.ptr b o))
  case slice b o n c e =>
    exact (strictN_eq b fun b => strictN o fun o => strictN n fun n => strictN c fun c => k (.slice b o n c e)).trans
      ((strictN_eq o fun o => strictN n fun n => strictN c fun c => k (.slice b o n c e)).trans ((strictN_eq n fun n => strictN c fun c => k (.slice b o n c e)).trans (strictN_eq c fun c => k (.slice b o n c e))))
  all_goals rfl
theorem kc_eq (a b : IntKind) : Nat.beq (kc a) (kc b) = kindBeq a b := by cases a <;> cases b <;> rfl
theorem eqI_eq (a b : Int) : eqI a b = intBeq a b := by cases a <;> cases b <;> rfl
theorem ltI_eq (a b : Int) : ltI a b = decide (a < b) := by
  cases a with
  | ofNat m =>
    cases b with
    | ofNat n =>
      show Nat.ble (m + 1) n = _
      rw [Bool.eq_iff_iff]; simp; omega
    | negSucc n =>
      show false = _
      symm; rw [decide_eq_false_iff_not]; have := Int.negSucc_lt_zero n; have h : (0 : Int) ≤ Int.ofNat m := Int.natCast_nonneg m; omega
  | negSucc m =>
    cases b with
    | ofNat n =>
      show true = _
      symm; rw [decide_eq_true_eq]; have := Int.negSucc_lt_zero m; have h : (0 : Int) ≤ Int.ofNat n := Int.natCast_nonneg n; omega
    | negSucc n =>
      show Nat.ble (n + 1) m = _
      rw [Bool.eq_iff_iff]; simp [Int.negSucc_eq]; omega
theorem notB_eq (b : Bool) : notB b = !b := by cases b <;> rfl
theorem addI_eq (a b : Int) : addI a b = a + b := by cases a <;> cases b <;> rfl
theorem subI_eq (a b : Int) : subI a b = a - b := by
  cases a with
  | negSucc m => rfl
  | ofNat m =>
    cases b with
    | negSucc n => rfl
    | ofNat n =>
      show (Bool.rec _ _ (Nat.ble n m) : Int) = _
      cases h : Nat.ble n m with
      | false => rfl
      | true =>
        have := of_ble h
        show ((m - n : Nat) : Int) = (m : Int) - (n : Int)
        omega
theorem wrap_small (k : IntKind) (m : Nat) (h : m ≤ kmax k) : k.wrap (.ofNat m) = .ofNat m := by
  have e : (Int.ofNat m : Int) = (m : Int) := rfl
  rw [e]
  cases k <;> simp only [kmax] at h <;> simp only [IntKind.wrap, IntKind.bits, IntKind.signed] <;> (first | (rw [if_neg (by simp; omega)]; omega) | (simp; omega))
theorem wrap_neg0 (k : IntKind) (M H : Int) (m : Nat) (e1 : (2 : Int) ^ k.bits = M) (e2 : (2 : Int) ^ (k.bits - 1) = H) (e3 : k.signed = true) (e4 : M = H + H) (h : (m : Int) + 1 ≤ H) : k.wrap (.negSucc m) = .negSucc m := by
  have hm : (Int.negSucc m) % M = M - ((m : Int) + 1) := by
    rw [Int.negSucc_eq]
    have : -((m : Int) + 1) = (M - ((m : Int) + 1)) + M * (-1) := by omega
    rw [this, Int.add_mul_emod_self_left]
    exact Int.emod_eq_of_lt (by omega) (by omega)
  unfold IntKind.wrap
  rw [e1, e2, e3, hm]
  have hc : (true && decide (M - ((m : Int) + 1) ≥ H)) = true := by simp; omega
  simp only [hc, if_true]
  rw [Int.negSucc_eq]; omega
theorem wrap_neg (k : IntKind) (m : Nat) (hk : Nat.ble (kc k) 3 = true) (h : m ≤ kmax k) : k.wrap (.negSucc m) = .negSucc m := by
  cases k <;> simp only [kmax] at h <;> (first | (exact absurd hk (by decide)) | skip)
  · exact wrap_neg0 .i8 256 128 m rfl rfl rfl rfl (by omega)
  · exact wrap_neg0 .i16 65536 32768 m rfl rfl rfl rfl (by omega)
  · exact wrap_neg0 .i32 4294967296 2147483648 m rfl rfl rfl rfl (by omega)
  · exact wrap_neg0 .i64 18446744073709551616 9223372036854775808 m rfl rfl rfl rfl (by omega)
theorem wrapF_eq (k : IntKind) (n : Int) : wrapF k n = k.wrap n := by
  cases n with
  | ofNat m =>
    show (Bool.rec _ _ (Nat.ble m (kmax k)) : Int) = _
    cases h : Nat.ble m (kmax k) with
    | false => rfl
    | true => exact (wrap_small k m (of_ble h)).symm
  | negSucc m =>
    show (Bool.rec _ (Bool.rec _ _ (Nat.ble m (kmax k))) (Nat.ble (kc k) 3) : Int) = _
    cases h : Nat.ble (kc k) 3 with
    | false => rfl
    | true =>
      show (Bool.rec _ _ (Nat.ble m (kmax k)) : Int) = _
      cases h1 : Nat.ble m (kmax k) with
      | false => rfl
      | true => exact (wrap_neg k m h (of_ble h1)).symm
end
end Go.AM

namespace Go.AM
section
variable {C : Cfg} {tm : Tr AVal} {s s' : St} {v : AVal} {fr : AFr} {callers : List AFr}

theorem evV_sound {x : Operand} {f : Tr AVal → AVal} (h : evV x = some ⟨f⟩) : eval tm x = some (f tm) := by
  unfold evV at h
  split at h
  · rename_i t
    rw [strictN_eq] at h
    cases h
    show (match tm.get t with | some v => some v | none => some (.tuple [])) = some (Option.rec _ _ (tm.getB (t + 1)))
    rw [Tr.getB_eq]
    cases tm.get t <;> rfl
  · split at h
    · rename_i a ha
      rw [forceF_eq] at h
      cases h
      exact ha
    · cases h
  · cases h; rfl
  · cases h
theorem onBool_some {β : Type} {x : AVal} {k : Bool → Option β} {r : β} (h : x.onBool none k = some r) : ∃ b, x = .bool b ∧ k b = some r := by
  cases x <;> first | exact ⟨_, rfl, h⟩ | cases h
theorem onPtr_some {β : Type} {x : AVal} {d : Option β} {k : Nat → Nat → Option β} {r : β} (h : x.onPtr d k = some r) : (∃ b o, x = .ptr b o ∧ k b o = some r) ∨ d = some r := by
  cases x <;> first | exact .inl ⟨_, _, rfl, h⟩ | exact .inr h
theorem onInt_some {β : Type} {x : AVal} {d : Option β} {k : IntKind → Int → Option β} {r : β} (h : x.onInt d k = some r) : (∃ kd n, x = .int kd n ∧ k kd n = some r) ∨ d = some r := by
  cases x <;> first | exact .inl ⟨_, _, rfl, h⟩ | exact .inr h
theorem onRow_some {β : Type} {x : ABlk} {k : TypeId → Nat → Tr AVal → Option β} {r : β} (h : x.onRow none k = some r) : ∃ e n t, x = .row e n t ∧ k e n t = some r := by
  cases x <;> first | exact ⟨_, _, _, rfl, h⟩ | cases h
theorem brec_some {β : Type} {b : Bool} {x : Option β} {r : β} (h : Bool.rec none x b = some r) : b = true ∧ x = some r := by
  cases b
  · cases h
  · exact ⟨rfl, h⟩
theorem orec_some {α β : Type} {o : Option α} {k : α → Option β} {r : β} (h : Option.rec none k o = some r) : ∃ a, o = some a ∧ k a = some r := by
  cases o
  · cases h
  · exact ⟨_, rfl, h⟩
theorem valOf_some {r : Res} (h : valOf r = some v) : ∃ s', r = some (.val v s') := by
  unfold valOf at h
  split at h
  · cases h; exact ⟨_, rfl⟩
  · cases h
theorem effOf_some {r : Res} (h : effOf r = some (v, s')) : r = some (.val v s') := by
  unfold effOf at h
  split at h
  · cases h; rfl
  · cases h

theorem loadOne_sound {b off : Nat} (h : loadOne s b off = some v) : AM.loadCells s b off 1 = some [v] := by
  obtain ⟨hp, nx, lg⟩ := s
  obtain ⟨x, h1, h⟩ := orec_some (show Option.rec none _ (hp.getB (b + 1)) = some v from h)
  obtain ⟨e, n, t, rfl, h⟩ := onRow_some h
  obtain ⟨h2, h3⟩ := brec_some h
  rw [Tr.getB_eq] at h1
  rw [show t.getB (Nat.succ off) = t.get off from Tr.getB_eq _ _] at h3
  simp only [AM.loadCells, getRow, h1]
  rw [show Nat.ble (off + (0 + 1)) n = true from h2]
  simp only [cellsAt, h3]
theorem storeOne_sound {b off : Nat} {r : AVal × St} (h : storeOne C.lo s b off v = some r) (hf : v.flat = true) : r.1 = .tuple [] ∧ AM.storeCells C s b off [v] none (fun s => some (Out.val (.tuple []) s)) = some (.val (.tuple []) r.2) := by
  obtain ⟨hp, nx, lg⟩ := s
  obtain ⟨h0, h⟩ := brec_some (show Bool.rec none _ (Nat.ble C.lo b) = some r from h)
  obtain ⟨x, h1, h⟩ := orec_some h
  obtain ⟨e, n, t, rfl, h⟩ := onRow_some h
  obtain ⟨h2, h⟩ := brec_some h
  rw [show hp.getB (Nat.succ b) = hp.get b from Tr.getB_eq _ _] at h1
  rw [show t.setB (Nat.succ off) v _ = _ from Tr.setB_eq _ _ _ _, show hp.setB (Nat.succ b) _ _ = _ from Tr.setB_eq _ _ _ _] at h
  cases h
  refine ⟨rfl, ?_⟩
  have h2' : Nat.ble (off + [v].length) n = true := h2
  simp only [AM.storeCells, h0, getRow, h1, h2', Bool.true_and, List.all_cons, hf, List.all_nil, Tr.setList_eq, put_eq]
  rfl

theorem opt_val {x : Option AVal} {st : St} (h : x = some v) : val x st = some (.val v st) := by rw [h]; rfl
theorem ints_sound {f : IntKind → Int → Int → AVal} {x y : AVal} (h : ints f x y = some v) : ∃ k a b, x = .int k a ∧ y = .int k b ∧ v = f k a b := by
  unfold ints at h
  rcases onInt_some h with ⟨k, a, rfl, h3⟩ | h
  · rcases onInt_some h3 with ⟨l, b, rfl, h4⟩ | h
    · obtain ⟨h1, h2⟩ := brec_some h4
      rw [kc_eq] at h1
      have := kindBeq_eq h1
      subst this
      cases h2
      exact ⟨_, _, _, rfl, rfl, rfl⟩
    · cases h
  · cases h
theorem intsOr_sound {f : Int → Int → Bool} {g : Option AVal} {x y : AVal} (h : intsOr f g x y = some v) : (∃ k a b, x = .int k a ∧ y = .int k b ∧ v = .bool (f a b)) ∨ g = some v := by
  unfold intsOr at h
  rcases onInt_some h with ⟨k, a, rfl, h3⟩ | h
  · rcases onInt_some h3 with ⟨l, b, rfl, h4⟩ | h
    · obtain ⟨h1, h2⟩ := brec_some h4
      rw [kc_eq] at h1
      have := kindBeq_eq h1
      subst this
      cases h2
      exact .inl ⟨_, _, _, rfl, rfl, rfl⟩
    · exact .inr h
  · exact .inr h
theorem opBin_same {op : BinOp} {t : TypeId} {a b : Operand} {x y : Option AVal} (h : opBin C op t a b x y s = some (.val v s')) : s' = s := by
  unfold opBin at h
  repeat' split at h
  all_goals first | (cases h; done) | exact (val_some h).2
theorem kindBeq_refl (k : IntKind) : kindBeq k k = true := by cases k <;> rfl
theorem opBin_int {op : BinOp} {t : TypeId} {a b : Operand} {k : IntKind} {m n : Int} : opBin C op t a b (some (.int k m)) (some (.int k n)) s = val (arith op k m n) s := by
  simp only [opBin, nilsOk, binop, kindBeq_refl]
theorem decBin_sound {op : BinOp} {t : TypeId} {x y : Operand} {fx fy : Tr AVal → AVal} {f : Tr AVal → St → Option AVal} (h : decBin C op t x y fx fy = .val f) (hv : f tm s = some v) :
    opBin C op t x y (some (fx tm)) (some (fy tm)) s = some (.val v s) := by
  unfold decBin at h
  split at h <;> cases h
  · obtain ⟨k, a, b, h1, h2, rfl⟩ := ints_sound hv; rw [h1, h2, opBin_int, wrapF_eq, addI_eq]; rfl
  · obtain ⟨k, a, b, h1, h2, rfl⟩ := ints_sound hv; rw [h1, h2, opBin_int, wrapF_eq, subI_eq]; rfl
  · obtain ⟨k, a, b, h1, h2, rfl⟩ := ints_sound hv; rw [h1, h2, opBin_int, ltI_eq]; rfl
  · obtain ⟨k, a, b, h1, h2, rfl⟩ := ints_sound hv; rw [h1, h2, opBin_int, ltI_eq, notB_eq]
    simp only [arith]
    rw [show (decide (a ≤ b)) = (!decide (b < a)) from by rw [Bool.eq_iff_iff]; simp]
    rfl
  · obtain ⟨k, a, b, h1, h2, rfl⟩ := ints_sound hv; rw [h1, h2, opBin_int, ltI_eq]; rfl
  · obtain ⟨k, a, b, h1, h2, rfl⟩ := ints_sound hv; rw [h1, h2, opBin_int, ltI_eq, notB_eq]
    simp only [arith]
    rw [show (decide (b ≤ a)) = (!decide (a < b)) from by rw [Bool.eq_iff_iff]; simp]
    rfl
  · rcases intsOr_sound hv with ⟨k, a, b, h1, h2, rfl⟩ | h
    · rw [h1, h2, opBin_int, eqI_eq]; rfl
    · obtain ⟨s', h⟩ := valOf_some h; have := opBin_same h; subst this; exact h
  · rcases intsOr_sound hv with ⟨k, a, b, h1, h2, rfl⟩ | h
    · rw [h1, h2, opBin_int, eqI_eq, notB_eq]; rfl
    · obtain ⟨s', h⟩ := valOf_some h; have := opBin_same h; subst this; exact h
  · obtain ⟨s', h⟩ := valOf_some hv; have := opBin_same h; subst this; exact h
theorem decBin_val {op : BinOp} {t : TypeId} {x y : Operand} {fx fy : Tr AVal → AVal} : ∃ f, decBin C op t x y fx fy = .val f := by
  unfold decBin
  split <;> exact ⟨_, rfl⟩
theorem sw_tuple {x : AVal} {k : List AVal → Option AVal} (h : x.sw none (fun _ => none) (fun _ _ => none) (fun _ => none) (fun _ _ => none) (fun _ _ _ _ _ => none) k = some v) : ∃ l, x = .tuple l ∧ k l = some v := by
  cases x <;> first | exact ⟨_, rfl, h⟩ | cases h
theorem sw_slice {x : AVal} {d : Option AVal} {k : Nat → Nat → Nat → Nat → Nat → Option AVal} (h : x.sw d (fun _ => none) (fun _ _ => none) (fun _ => none) (fun _ _ => none) k (fun _ => none) = some v) : (∃ b o n c e, x = .slice b o n c e ∧ k b o n c e = some v) ∨ (d = some v ∧ ∀ b o n c e, x ≠ .slice b o n c e) := by
  cases x <;> first | exact .inl ⟨_, _, _, _, _, rfl, h⟩ | (refine .inr ⟨h, ?_⟩; intro _ _ _ _ _ e; cases e; done) | cases h
end
end Go.AM

namespace Go.AM
section
variable {C : Cfg} {tm : Tr AVal} {s s' : St} {v : AVal} {fr : AFr} {callers : List AFr} {o : Op} {f : Tr AVal → St → Option AVal}

theorem only_of {r : Res} (h : r = some (.val v s')) : onlyVal r = some (.val v s') := by rw [h]; rfl
theorem opIndexAddr_same {t : TypeId} {x i : Option AVal} (h : opIndexAddr C t x i s = some (.val v s')) : s' = s := by
  unfold opIndexAddr at h
  repeat' split at h
  all_goals first | (cases h; done) | (cases h; rfl)
theorem val_same {x : Option AVal} (h : val x s = some (.val v s')) : s' = s := by
  unfold val at h; split at h
  · cases h; rfl
  · cases h
theorem opIndex_same {t : TypeId} {x i : Option AVal} (h : opIndex C t x i s = some (.val v s')) : s' = s := by
  unfold opIndex at h
  repeat' split at h
  all_goals first | (cases h; done) | (cases h; rfl) | exact val_same h
theorem opLoad_same {t : TypeId} {x : Option AVal} (h : opLoad C t x s = some (.val v s')) : s' = s := by
  unfold opLoad at h
  split at h
  · exact val_same h
  · cases h
theorem opNil_same {x : Option AVal} (h : opNil x s = some (.val v s')) : s' = s := by
  unfold opNil at h
  split at h <;> cases h <;> rfl
theorem opLen_same {t : Option TypeId} {x : AVal} (h : opLen C t s x = some (.val v s')) : s' = s := by
  unfold opLen at h
  repeat' split at h
  all_goals first | (cases h; done) | (cases h; rfl)

theorem decOp_val (h : decOp C o = .val f) (hv : f tm s = some v) : aop C o tm fr callers s = some (.val v s) := by
  unfold decOp at h
  split at h
  · -- move
    split at h
    · rename_i x g hx
      cases h; cases hv
      exact only_of (opt_val (evV_sound hx))
    · cases h
  · split at h
    · rename_i x g hx
      cases h; cases hv
      exact only_of (opt_val (evV_sound hx))
    · cases h
  · -- pick
    rename_i c a b
    split at h
    · rename_i fc fa fb hc ha hb
      cases h
      obtain ⟨q, h1, h2⟩ := onBool_some hv
      refine only_of ?_
      show opPick (eval tm c) (eval tm a) (eval tm b) s = _
      rw [evV_sound hc, evV_sound ha, evV_sound hb, h1]
      cases q <;> (cases h2; rfl)
    · cases h
  · -- load
    rename_i t a
    split at h
    · rename_i hag hsz hx
      cases h
      rcases onPtr_some hv with ⟨b, off, h1, h2⟩ | h2
      · refine only_of ?_
        show opLoad C t (eval tm a) s = _
        rw [evV_sound hx, h1]
        refine opt_val ?_
        simp only [AM.loadVar, hag, hsz, loadOne_sound h2]
      · cases h2
    · rename_i hag hsz hx
      cases h
      obtain ⟨s1, h1⟩ := valOf_some hv
      have := opLoad_same h1; subst this
      refine only_of ?_
      show opLoad C t (eval tm a) _ = _
      rw [evV_sound hx]; exact h1
    · cases h
  · -- fieldAddr
    rename_i t x i
    split at h
    · rename_i fs g hu hx
      split at h
      · rename_i fd hfd
        split at h
        · rename_i m hm
          rw [strictN_eq] at h
          cases h
          rcases onPtr_some hv with ⟨b, off, h1, h2⟩ | h2
          · cases h2
            refine only_of ?_
            show opFieldAddr C t (eval tm x) i s = _
            rw [evV_sound hx, h1]
            simp only [opFieldAddr, hu, hfd, hm]
            rfl
          · cases h2
        · cases h
      · cases h
    · cases h
  · -- indexAddr
    rename_i t x i
    split at h
    · rename_i e g g' hu hx hi
      split at h
      · rename_i z hz
        rw [strictN_eq] at h
        cases h
        rcases sw_slice hv with ⟨b, off, n, c, e', h1, h2⟩ | ⟨h2, _⟩
        · rcases onInt_some h2 with ⟨kd, q, h3, h4⟩ | h4
          · cases q with
            | negSucc q => cases h4
            | ofNat q =>
              obtain ⟨h5, h6⟩ := brec_some h4
              cases h6
              refine only_of ?_
              show opIndexAddr C t (eval tm x) (eval tm i) s = _
              rw [evV_sound hx, evV_sound hi, h1, h3]
              simp only [opIndexAddr, hu, hz, show Nat.blt q n = true from h5]
              rfl
          · cases h4
        · cases h2
      · cases h
    · rename_i hx hi
      cases h
      obtain ⟨s1, h1⟩ := valOf_some hv
      have := opIndexAddr_same h1; subst this
      refine only_of ?_
      show opIndexAddr C t (eval tm x) (eval tm i) _ = _
      rw [evV_sound hx, evV_sound hi]; exact h1
    · cases h
  · -- binOp
    rename_i op t x y ty
    split at h
    · rename_i g g' hx hy
      refine only_of ?_
      show opBin C op t x y (eval tm x) (eval tm y) s = _
      rw [evV_sound hx, evV_sound hy]
      exact decBin_sound h hv
    · cases h
  · -- unOp
    rename_i op t x
    split at h
    · rename_i g hx
      cases h
      obtain ⟨b, h1, h2⟩ := onBool_some hv
      cases h2
      refine only_of ?_
      show opUn .not (eval tm x) s = _
      rw [evV_sound hx, h1, notB_eq]; rfl
    · cases h
  · -- extract
    rename_i x i
    split at h
    · rename_i g hx
      rw [strictN_eq] at h
      cases h
      obtain ⟨l, h1, h2⟩ := sw_tuple hv
      refine only_of ?_
      show opExtract (eval tm x) i s = _
      rw [evV_sound hx, h1]
      simp only [opExtract, h2]
    · cases h
  · -- nilCheck
    rename_i x
    split at h
    · rename_i g hx
      cases h
      refine only_of ?_
      show opNil (eval tm x) s = _
      rw [evV_sound hx]
      rcases onPtr_some hv with ⟨b, off, h1, h2⟩ | h2
      · cases h2; rw [h1]; rfl
      · obtain ⟨s1, h1⟩ := valOf_some h2
        have := opNil_same h1; subst this
        exact h1
    · cases h
  · -- store
    repeat' split at h
    all_goals cases h
  · -- call
    rename_i c
    split at h
    · rename_i hc
      split at h
      · rename_i x t hargs hat
        split at h
        · rename_i e g hu hx
          cases h
          show opCall C c tm fr callers s = _
          have hev : evals tm c.args.toList = some [g tm] := by rw [hargs]; simp only [evals, evV_sound hx]
          simp only [opCall, hev, hc]
          refine only_of ?_
          simp only [opBuiltin, hat]
          rcases sw_slice hv with ⟨b, o, n, cp, es, h1, h2⟩ | ⟨h2, hne⟩
          · cases h2; rw [h1]; simp only [opLen, hu]
          · obtain ⟨s1, h1⟩ := valOf_some h2
            simp only [opLen, hu] at h1 ⊢
            split at h1
            · cases h1; rfl
            · rename_i hg; exact absurd hg (hne _ _ _ _ _)
            · cases h1
        · rename_i g hu hx
          cases h
          show opCall C c tm fr callers s = _
          have hev : evals tm c.args.toList = some [g tm] := by rw [hargs]; simp only [evals, evV_sound hx]
          simp only [opCall, hev, hc]
          refine only_of ?_
          simp only [opBuiltin, hat]
          obtain ⟨s1, h1⟩ := valOf_some hv
          have := opLen_same h1; subst this
          exact h1
        · cases h
      · cases h
    · repeat' split at h
      all_goals cases h
    · cases h
  · cases h
  · cases h
  · cases h
  · split at h <;> cases h
  · cases h
  · cases h
  · split at h <;> cases h
  · cases h
  · split at h <;> cases h
  · split at h <;> cases h
  · split at h <;> cases h
  · split at h <;> cases h
  · split at h <;> cases h
  · -- index
    rename_i t x i
    split at h
    · rename_i hx hi
      cases h
      obtain ⟨s1, h1⟩ := valOf_some hv
      have := opIndex_same h1; subst this
      refine only_of ?_
      show opIndex C t (eval tm x) (eval tm i) _ = _
      rw [evV_sound hx, evV_sound hi]; exact h1
    · cases h
  · cases h

theorem decOp_eff {f : Tr AVal → St → Option (AVal × St)} (h : decOp C o = .eff f) (hv : f tm s = some (v, s')) : aop C o tm fr callers s = some (.val v s') := by
  unfold decOp at h
  split at h
  case h_11 =>
    rename_i t a x
    split at h
    · rename_i n g g' hsz ha hx
      split at h
      · split at h
        · rename_i hn
          cases h
          have hv := (forceF_eq (g' tm) _).symm.trans hv
          split at hv
          · rename_i hfl
            rcases onPtr_some hv with ⟨b, off, h1, h2⟩ | h2
            · obtain ⟨k1, k2⟩ := storeOne_sound h2 hfl
              refine only_of ?_
              show opStore C t (eval tm a) (eval tm x) s = _
              rw [evV_sound ha, evV_sound hx, h1]
              have hc : (g' tm).cells = [g' tm] := by
                revert hfl
                cases g' tm <;> intro hfl <;> first | rfl | cases hfl
              simp only [opStore, hsz, hc, List.length_singleton]
              rw [show Nat.beq 1 n = true from nbeq_true (of_nbeq hn).symm]
              simp only at k1
              rw [k1]
              exact k2
            · cases h2
          · cases hv
        · cases h
      · cases h
        refine only_of ?_
        show opStore C t (eval tm a) (eval tm x) s = _
        rw [evV_sound ha, evV_sound hx]
        exact effOf_some hv
    · cases h
  case h_12 =>
    rename_i c
    split at h
    · repeat' split at h
      all_goals cases h
    · rename_i hc
      split at h
      · rename_i x y t0 t1 hargs hat
        split at h
        · rename_i g g' hx hy
          cases h
          show opCall C c tm fr callers s = _
          have hev : evals tm c.args.toList = some [g tm, g' tm] := by rw [hargs]; simp only [evals, evV_sound hx, evV_sound hy]
          simp only [opCall, hev, hc]
          refine only_of ?_
          simp only [opBuiltin, hat]
          exact effOf_some hv
        · cases h
      · cases h
    · cases h
  case h_15 => cases h; exact only_of (effOf_some hv)
  case h_16 =>
    split at h
    · rename_i hx
      cases h
      refine only_of ?_
      show opBox C _ (eval tm _) s = _
      rw [evV_sound hx]; exact effOf_some hv
    · cases h
  case h_17 => cases h; exact only_of (effOf_some hv)
  case h_18 => cases h; exact only_of (effOf_some hv)
  case h_19 =>
    split at h
    · rename_i hx
      cases h
      refine only_of ?_
      show opConvert C _ _ (eval tm _) s = _
      rw [evV_sound hx]; exact effOf_some hv
    · cases h
  case h_20 => cases h; exact only_of (effOf_some hv)
  case h_21 =>
    split at h
    · rename_i hx hy
      cases h
      refine only_of ?_
      show opMakeSlice C _ (eval tm _) (eval tm _) s = _
      rw [evV_sound hx, evV_sound hy]; exact effOf_some hv
    · cases h
  case h_22 =>
    split at h
    · rename_i hx
      cases h
      refine only_of ?_
      show opSlice C _ (eval tm _) _ _ _ tm s = _
      rw [evV_sound hx]; exact effOf_some hv
    · cases h
  case h_23 =>
    split at h
    · rename_i hx hy
      cases h
      refine only_of ?_
      show opLookup C _ (eval tm _) (eval tm _) _ s = _
      rw [evV_sound hx, evV_sound hy]; exact effOf_some hv
    · cases h
  case h_24 =>
    split at h
    · rename_i hx hy hz
      cases h
      refine only_of ?_
      show opMapUpdate C _ (eval tm _) (eval tm _) (eval tm _) s = _
      rw [evV_sound hx, evV_sound hy, evV_sound hz]; exact effOf_some hv
    · cases h
  case h_25 =>
    split at h
    · rename_i hx hy hz
      cases h
      refine only_of ?_
      show opMapUpdate C _ (eval tm _) (eval tm _) (eval tm _) s = _
      rw [evV_sound hx, evV_sound hy, evV_sound hz]; exact effOf_some hv
    · cases h
  case h_27 =>
    cases h
    have h1 := effOf_some hv
    have h2 : onlyVal (aop1 C o tm s) = some (.val v s') := only_of h1
    unfold aop
    split
    · simp [aop1] at h1
    · simp [aop1] at h1
    · simp [aop1] at h1
    · exact h2
  all_goals
    repeat' split at h
    all_goals first | (cases h; done) | (rw [strictN_eq] at h; cases h; done) | (obtain ⟨f', hf'⟩ := decBin_val (C := C); rw [hf'] at h; cases h; done)
end
end Go.AM

namespace Go.AM
section
variable {C : Cfg} {tm : Tr AVal} {s s' : St} {v : AVal} {ops : Array Oper} {o : Oper}

def Done (C : Cfg) (ops : Array Oper) (tm : Tr AVal) (o : Oper) (s : St) (v : AVal) (s' : St) : Prop :=
  ∀ fr callers, (wanted ops tm o = some true ∧ aop C o.op tm fr callers s = some (.val v s')) ∨ (wanted ops tm o = some false ∧ v = .tuple [] ∧ s' = s)

theorem onGuard_some {β : Type} {g : Option AVal} {want : Bool} {skip r : β} {go : Option β} (h : onGuard g want none (some skip) go = some r) :
    (g = some (.bool want) ∧ go = some r) ∨ ((g = some (.bool (!want)) ∨ g = some (.tuple [])) ∧ skip = r) := by
  cases g with
  | none => cases h
  | some x =>
    cases x
    case bool b =>
      cases b <;> cases want
      · exact .inl ⟨rfl, h⟩
      · cases h; exact .inr ⟨.inl rfl, rfl⟩
      · cases h; exact .inr ⟨.inl rfl, rfl⟩
      · exact .inl ⟨rfl, h⟩
    case tuple l =>
      cases l with
      | nil => cases h; exact .inr ⟨.inr rfl, rfl⟩
      | cons _ _ => cases h
    all_goals cases h
theorem wanted_none (h : o.guard = none) : wanted ops tm o = some true := by unfold wanted; rw [h]
theorem wanted_yes {j g : Nat} {want : Bool} {p : Oper} (h : o.guard = some (j, want)) (hp : ops[j]? = some p) (hg : p.dst = some g) (ht : tm.get g = some (.bool want)) : wanted ops tm o = some true := by
  unfold wanted; rw [h]; simp only [hp, hg, ht]; cases want <;> rfl
theorem wanted_no {j g : Nat} {want : Bool} {p : Oper} (h : o.guard = some (j, want)) (hp : ops[j]? = some p) (hg : p.dst = some g) (ht : tm.get g = some (.bool (!want)) ∨ tm.get g = some (.tuple [])) : wanted ops tm o = some false := by
  unfold wanted; rw [h]; simp only [hp, hg]
  rcases ht with ht | ht <;> rw [ht]
  cases want <;> rfl
theorem dec_val {d : Nat} {f : Tr AVal → St → Option AVal} (h : dec C ops o = .val d f) (hv : f tm s = some v) : o.dst = some d ∧ Done C ops tm o s v s := by
  unfold dec at h
  split at h
  · rename_i hg
    split at h
    · rename_i f' hf
      split at h
      · rename_i d' hd
        rw [strictN_eq] at h
        cases h
        exact ⟨hd, fun fr callers => .inl ⟨wanted_none hg, decOp_val hf hv⟩⟩
      · cases h
    · split at h
      · rw [strictN_eq] at h; cases h
      · cases h
    · cases h
  · rename_i j want hg
    split at h
    · rename_i p hp
      split at h
      · rename_i g hgd
        rw [strictN_eq] at h
        split at h
        · rename_i f' hf
          split at h
          · rename_i d' hd
            rw [strictN_eq] at h
            cases h
            refine ⟨hd, fun fr callers => ?_⟩
            rcases onGuard_some hv with ⟨h1, h2⟩ | ⟨h1, h2⟩
            · rw [show tm.getB (Nat.succ g) = tm.get g from Tr.getB_eq _ _] at h1
              exact .inl ⟨wanted_yes hg hp hgd h1, decOp_val hf h2⟩
            · rw [show tm.getB (Nat.succ g) = tm.get g from Tr.getB_eq _ _] at h1
              exact .inr ⟨wanted_no hg hp hgd h1, h2.symm, rfl⟩
          · cases h
        · split at h
          · rw [strictN_eq] at h; cases h
          · cases h
        · cases h
      · cases h
    · cases h
theorem dec_eff {d : Option Nat} {f : Tr AVal → St → Option (AVal × St)} (h : dec C ops o = .eff d f) (hv : f tm s = some (v, s')) : o.dst = d ∧ Done C ops tm o s v s' := by
  unfold dec at h
  split at h
  · rename_i hg
    split at h
    · split at h
      · rw [strictN_eq] at h; cases h
      · cases h
    · rename_i f' hf
      split at h
      · rename_i d' hd
        rw [strictN_eq] at h
        cases h
        exact ⟨hd, fun fr callers => .inl ⟨wanted_none hg, decOp_eff hf hv⟩⟩
      · rename_i hd
        cases h
        exact ⟨hd, fun fr callers => .inl ⟨wanted_none hg, decOp_eff hf hv⟩⟩
    · cases h
  · rename_i j want hg
    split at h
    · rename_i p hp
      split at h
      · rename_i g hgd
        rw [strictN_eq] at h
        split at h
        · split at h
          · rw [strictN_eq] at h; cases h
          · cases h
        · rename_i f' hf
          have key : onGuard (tm.getB (Nat.succ g)) want none (some (.tuple [], s)) (f' tm s) = some (v, s') → Done C ops tm o s v s' := by
            intro hv fr callers
            rcases onGuard_some hv with ⟨h1, h2⟩ | ⟨h1, h2⟩
            · rw [show tm.getB (Nat.succ g) = tm.get g from Tr.getB_eq _ _] at h1
              exact .inl ⟨wanted_yes hg hp hgd h1, decOp_eff hf h2⟩
            · rw [show tm.getB (Nat.succ g) = tm.get g from Tr.getB_eq _ _] at h1
              cases h2
              exact .inr ⟨wanted_no hg hp hgd h1, rfl, rfl⟩
          split at h
          · rename_i d' hd
            rw [strictN_eq] at h
            cases h
            exact ⟨hd, key hv⟩
          · rename_i hd
            cases h
            exact ⟨hd, key hv⟩
        · cases h
      · cases h
    · cases h

variable {big : Big} {fr : AFr} {callers : List AFr}
/-- some steps -/
inductive Reach (C : Cfg) (big : Big) : AM → SR → Prop
  | here (m : AM) : Reach C big m (.one m)
  | last {m : AM} {sr : SR} (h : AM.step C big m = some sr) : Reach C big m sr
  | more {m m' : AM} {sr : SR} (h : AM.step C big m = some (.one m')) (r : Reach C big m' sr) : Reach C big m sr

def Ctx.frOf (x : Ctx) (todo : List AItem) (tm : Tr AVal) : AFr := ⟨x.fn, tm, x.nt, todo, x.defers, .run, x.deferred, x.roundOf⟩
theorem Ctx.am_eq (x : Ctx) (todo : List AItem) (tm : Tr AVal) (st : St) : x.am todo tm st = ⟨x.frOf todo tm, x.callers, st⟩ := by cases x; rfl
theorem Ctx.ntOf_eq (x : Ctx) : x.ntOf = x.nt := by cases x; rfl

/-- where the value of an operation goes -/
def putOf (tm : Tr AVal) (d : Option Nat) (v : AVal) : Tr AVal → Prop := fun tm' => match d with
  | none => tm' = tm
  | some d => tm' = tm.set d v
theorem putD_of {β : Type} {nt : Nat} {d : Option Nat} {no : β} {k : Tr AVal → β} {tm' : Tr AVal} (h : putOf tm d v tm') (hd : ∀ x, d = some x → x < nt) : putD tm nt d v no k = k tm' := by
  unfold putD
  cases d with
  | none => cases h; rfl
  | some d =>
    cases h
    have : Nat.blt d nt = true := Nat.ble_eq_true_of_le (hd d rfl)
    simp only [this, force_eq, Tr.setK_eq]
/-- an operation of a region in the order of the text -/
theorem step_inReg {x : Ctx} {r : List Oper} {k : List AItem} {st : St} {tm' : Tr AVal} (hd : Done C ops tm o st v s') (hp : putOf tm o.dst v tm') (hn : ∀ d, o.dst = some d → d < x.nt) :
    AM.step C big (x.am (.inReg ops (o :: r) :: k) tm st) = some (.one (x.am (.inReg ops r :: k) tm' s')) := by
  rw [Ctx.am_eq, Ctx.am_eq]
  unfold AM.step
  simp only [Ctx.frOf]
  rcases hd (x.frOf (.inReg ops (o :: r) :: k) tm) x.callers with ⟨h1, h2⟩ | ⟨h1, h2, h3⟩
  · simp only [Ctx.frOf] at h2
    rw [h1, h2]
    simp only [applyOut, AM.finish, putD_of hp hn]
  · rw [h1]
    subst h2 h3
    simp only [putD_of hp hn]
end
end Go.AM

namespace Go.AM
section
variable {C : Cfg} {tm tm' : Tr AVal} {s s' : St} {v : AVal} {ops : Array Oper} {o : Oper} {big : Big} {x : Ctx} {k : List AItem} {st : St} {sr : SR}
  {bf : List Nat} {dn i j : Nat} {rest : List (Nat × Oper)}

theorem without_eq {β : Type} (i : Nat) (l : List (Nat × Oper)) (kf : List (Nat × Oper) → β) : without i l kf = kf (l.filter fun y => !(Nat.beq y.1 i)) := by
  induction l generalizing kf with
  | nil => rfl
  | cons y l ih =>
    show (Bool.rec (without i l fun r => kf (y :: r)) (without i l kf) (Nat.beq y.1 i) : β) = _
    rw [List.filter_cons]
    cases Nat.beq y.1 i with
    | true => exact ih kf
    | false => exact ih fun r => kf (y :: r)
theorem nth_eq {α : Type} : ∀ (l : List α) (i : Nat), nth l i = l[i]?
  | [], i => by simp [nth]
  | x :: l, 0 => rfl
  | x :: l, i + 1 => by
    show nth l i = _
    rw [nth_eq l i, List.getElem?_cons_succ]
theorem firstQuietF_eq : ∀ (l : List (Nat × Oper)), firstQuietF bf dn l = firstQuiet bf dn l
  | [] => rfl
  | (i, o) :: r => by
    simp only [firstQuietF, firstQuiet, nth_eq, firstQuietF_eq r]
    rfl
theorem snoc_eq {β : Type} (l : List Nat) (n : Nat) (kf : List Nat → β) : snoc l n kf = kf (l ++ [n]) := by
  induction l generalizing kf with
  | nil => rfl
  | cons x l ih => exact ih fun r => kf (x :: r)
theorem afterN_eq (acc : Array Nat) : ∀ (l : List Edge) (s : Nat), afterN acc.toList l s = l.foldl (fun s e => if Region.binds .any e then s ||| 2 ^ e.on ||| acc.getD e.on 0 else s) s
  | [], s => rfl
  | e :: r, s => by
    unfold afterN
    rw [List.foldl_cons]
    cases hb : Region.binds .any e with
    | false => simp only []; rw [afterN_eq acc r]; rfl
    | true =>
      simp only [strictN_eq]
      rw [afterN_eq acc r, nth_eq]
      have : (Option.rec 0 (fun w => w) (acc.toList[e.on]?) : Nat) = acc.getD e.on 0 := by
        rw [Array.getElem?_toList, Array.getD_eq_getD_getElem?]
        cases acc[e.on]? <;> rfl
      rw [this]
      rfl
theorem beforeL_eq {β : Type} : ∀ (l : List Oper) (acc : Array Nat) (kf : List Nat → β),
    beforeL l acc.toList kf = kf (l.foldl (fun acc o => acc.push (o.after.foldl (fun s e => if Region.binds .any e then s ||| 2 ^ e.on ||| acc.getD e.on 0 else s) 0)) acc).toList
  | [], acc, kf => rfl
  | o :: r, acc, kf => by
    unfold beforeL
    rw [strictN_eq, snoc_eq, List.foldl_cons, afterN_eq]
    have e : acc.toList ++ [o.after.toList.foldl (fun s e => if Region.binds .any e then s ||| 2 ^ e.on ||| acc.getD e.on 0 else s) 0] =
        (acc.push (o.after.foldl (fun s e => if Region.binds .any e then s ||| 2 ^ e.on ||| acc.getD e.on 0 else s) 0)).toList := by
      rw [Array.toList_push, Array.foldl_toList]
    rw [e]
    exact beforeL_eq r _ kf
theorem before_eq {β : Type} (kf : List Nat → β) : beforeL ops.toList [] kf = kf (Region.before ops).toList := by
  have := beforeL_eq ops.toList #[] kf
  rw [show (#[] : Array Nat).toList = [] from rfl] at this
  rw [this]
  unfold Region.before
  rw [Array.foldl_toList]
theorem noReads_recheck {bj : Nat} {l : List (Nat × Oper)} {fr : AFr} {callers : List AFr} (h : noReads bj dn j l = true) : recheck C ops bj dn j tm fr callers st l = true := by
  induction l with
  | nil => rfl
  | cons p l ih =>
    obtain ⟨i, o⟩ := p
    simp only [noReads] at h
    simp only [recheck]
    split at h
    · cases h
    · rename_i hb
      rw [hb]
      exact ih h
theorem sameDst_dst {p : Option Oper} (h : sameDst p o = true) : ∃ q, p = some q ∧ q.dst = o.dst := by
  unfold sameDst at h
  split at h
  · rename_i q
    refine ⟨q, rfl, ?_⟩
    split at h
    · rename_i h1 h2; rw [h1, h2, of_nbeq h]
    · rename_i h1 h2; rw [h1, h2]
    · cases h
  · cases h

theorem step_draw_quiet (hq : firstQuiet bf dn rest = some (i, o)) (hd : Done C ops tm o st v s') (hp : putOf tm o.dst v tm') (hn : ∀ d, o.dst = some d → d < x.nt) :
    AM.step C big (x.am (.inDraw ops bf dn rest none :: k) tm st) = some (.one (x.am (.inDraw ops bf (dn ||| 2 ^ i) (rest.filter fun y => !(Nat.beq y.1 i)) none :: k) tm' s')) := by
  rw [Ctx.am_eq, Ctx.am_eq]
  unfold AM.step
  simp only [Ctx.frOf, stepDraw, hq]
  rcases hd (x.frOf (.inDraw ops bf dn rest none :: k) tm) x.callers with ⟨h1, h2⟩ | ⟨h1, h2, h3⟩
  · simp only [Ctx.frOf] at h2
    rw [h1, h2]
    simp only [putD_of hp hn, strictN_eq]
  · rw [h1]
    subst h2 h3
    simp only [putD_of hp hn, strictN_eq]
theorem step_draw_active {w : Nat} {r : List (Nat × Oper)} (hq : firstQuiet bf dn ((i, o) :: r) = none) (hb : bf[i]? = some w)
    (hc : (Nat.beq (w &&& dn) w && r.all (fun x => !(active x.2.op) || (match bf[x.1]? with | some w => w.testBit i | none => false))) = true) (hs : sameDst ops[i]? o = true)
    (hd : Done C ops tm o st v s') (hp : putOf tm o.dst v tm') (hn : ∀ d, o.dst = some d → d < x.nt) :
    AM.step C big (x.am (.inDraw ops bf dn ((i, o) :: r) none :: k) tm st) = some (.one (x.am (.inDraw ops bf (dn ||| 2 ^ i) r (some i) :: k) tm' s')) := by
  obtain ⟨q, hq1, hq2⟩ := sameDst_dst hs
  rw [Ctx.am_eq, Ctx.am_eq]
  unfold AM.step
  simp only [Ctx.frOf, stepDraw, hq, hb]
  split
  case h_2 hcc => exact absurd (Eq.trans hcc.symm hc) (by decide)
  rcases hd ({ x.frOf (.inDraw ops bf dn ((i, o) :: r) none :: k) tm with todo := .inDraw ops bf dn r (some i) :: k }) x.callers with ⟨h1, h2⟩ | ⟨h1, h2, h3⟩
  · simp only [Ctx.frOf] at h2
    rw [h1, h2]
    simp only [applyOut, AM.finish, hq1, hq2, putD_of hp hn, strictN_eq]
  · rw [h1]
    subst h2 h3
    simp only [AM.finish, hq1, hq2, putD_of hp hn, strictN_eq]
theorem step_draw_fin (hq : firstQuiet bf dn [] = none) : AM.step C big (x.am (.inDraw ops bf dn [] none :: k) tm st) = some (.one (x.am k tm st)) := by
  rw [Ctx.am_eq, Ctx.am_eq]
  unfold AM.step
  simp only [Ctx.frOf, stepDraw, hq]
theorem step_draw_pass {bj : Nat} (hb : bf[j]? = some bj) (hj : (dn.testBit j && noReads bj dn j (enum 0 ops.toList)) = true) :
    AM.step C big (x.am (.inDraw ops bf dn rest (some j) :: k) tm st) = some (.one (x.am (.inDraw ops bf dn rest none :: k) tm st)) := by
  rw [Bool.and_eq_true] at hj
  rw [Ctx.am_eq, Ctx.am_eq]
  unfold AM.step
  simp only [Ctx.frOf, hb, hj.1, noReads_recheck hj.2, Bool.and_self]

def LoopOK (C : Cfg) (big : Big) (L : Loop) : Prop := ∀ x todo tm st sr, L x todo tm st = some sr → Reach C big (x.am todo tm st) sr
theorem slowF_ok {todo : List AItem} (h : slowF C big x todo tm st = some sr) : Reach C big (x.am todo tm st) sr := .last h

theorem drawF_ok {L : Loop} (hL : LoopOK C big L) {pend : Option Nat} (h : drawF C big L ops bf dn rest pend k x tm st = some sr) : Reach C big (x.am (.inDraw ops bf dn rest pend :: k) tm st) sr := by
  unfold drawF at h
  -- what is put, and where
  have goV : ∀ (d : Nat) (f : Tr AVal → St → Option AVal) (it : AItem),
      (∀ v tm', f tm st = some v → d < x.nt → tm' = tm.set d v → AM.step C big (x.am (.inDraw ops bf dn rest pend :: k) tm st) = some (.one (x.am (it :: k) tm' st))) →
      (Option.rec (slowF C big x (.inDraw ops bf dn rest pend :: k) tm st) (fun v => Bool.rec (slowF C big x (.inDraw ops bf dn rest pend :: k) tm st) (v.forceF fun v => tm.setB (Nat.succ d) v fun tm => L x (it :: k) tm st) (Nat.ble (Nat.succ d) x.ntOf)) (f tm st) : Option SR) = some sr → Reach C big (x.am (.inDraw ops bf dn rest pend :: k) tm st) sr := by
    intro d f it hs h
    cases hf : f tm st with
    | none => rw [hf] at h; exact slowF_ok h
    | some v =>
      rw [hf] at h
      cases hb : Nat.ble (Nat.succ d) x.ntOf with
      | false => simp only [hb] at h; exact slowF_ok h
      | true =>
        simp only [hb, forceF_eq] at h
        rw [show tm.setB (Nat.succ d) v _ = _ from Tr.setB_eq _ _ _ _] at h
        rw [Ctx.ntOf_eq] at hb
        exact .more (hs v _ hf (of_ble hb) rfl) (hL _ _ _ _ _ h)
  have goE : ∀ (d : Option Nat) (f : Tr AVal → St → Option (AVal × St)) (it : AItem),
      (∀ v s' tm', f tm st = some (v, s') → (∀ y, d = some y → y < x.nt) → putOf tm d v tm' → AM.step C big (x.am (.inDraw ops bf dn rest pend :: k) tm st) = some (.one (x.am (it :: k) tm' s'))) →
      (Option.rec (slowF C big x (.inDraw ops bf dn rest pend :: k) tm st) (fun p => Prod.rec (fun v st' => Option.rec (L x (it :: k) tm st') (fun d => Bool.rec (slowF C big x (.inDraw ops bf dn rest pend :: k) tm st) (v.forceF fun v => tm.setB (Nat.succ d) v fun tm => L x (it :: k) tm st') (Nat.ble (Nat.succ d) x.ntOf)) d) p) (f tm st) : Option SR) = some sr → Reach C big (x.am (.inDraw ops bf dn rest pend :: k) tm st) sr := by
    intro d f it hs h
    cases hf : f tm st with
    | none => rw [hf] at h; exact slowF_ok h
    | some p =>
      obtain ⟨v, s'⟩ := p
      rw [hf] at h
      cases d with
      | none => exact .more (hs v s' tm hf (fun y e => by cases e) rfl) (hL _ _ _ _ _ h)
      | some d =>
        cases hb : Nat.ble (Nat.succ d) x.ntOf with
        | false => simp only [hb] at h; exact slowF_ok h
        | true =>
          simp only [hb, forceF_eq] at h
          rw [show tm.setB (Nat.succ d) v _ = _ from Tr.setB_eq _ _ _ _] at h
          rw [Ctx.ntOf_eq] at hb
          exact .more (hs v s' _ hf (fun y e => by cases e; exact of_ble hb) rfl) (hL _ _ _ _ _ h)
  unfold decD at h
  simp only [firstQuietF_eq] at h
  split at h
  · -- none
    split at h
    · rename_i i o hq
      split at h
      · rename_i d f hdec
        rw [strictN_eq, without_eq] at h
        refine goV d f _ (fun v tm' hf hlt htm => ?_) h
        obtain ⟨h1, h2⟩ := dec_val hdec hf
        exact step_draw_quiet hq h2 (by rw [h1]; exact htm) (fun y e => by rw [h1] at e; cases e; exact hlt)
      · rename_i d f hdec
        rw [strictN_eq, without_eq] at h
        refine goE (some d) f _ (fun v s' tm' hf hlt htm => ?_) h
        obtain ⟨h1, h2⟩ := dec_eff hdec hf
        exact step_draw_quiet hq h2 (by rw [h1]; exact htm) (fun y e => hlt y (h1 ▸ e))
      · exact slowF_ok h
    · rename_i hq
      split at h
      · exact .more (step_draw_fin hq) (hL _ _ _ _ _ h)
      · rename_i i o r
        split at h
        · rename_i w hb
          split at h
          · rename_i hc
            split at h
            · rename_i hs
              split at h
              · rename_i d f hdec
                rw [strictN_eq] at h
                refine goV d f _ (fun v tm' hf hlt htm => ?_) h
                obtain ⟨h1, h2⟩ := dec_val hdec hf
                exact step_draw_active hq hb hc hs h2 (by rw [h1]; exact htm) (fun y e => by rw [h1] at e; cases e; exact hlt)
              · rename_i d f hdec
                rw [strictN_eq] at h
                refine goE d f _ (fun v s' tm' hf hlt htm => ?_) h
                obtain ⟨h1, h2⟩ := dec_eff hdec hf
                exact step_draw_active hq hb hc hs h2 (by rw [h1]; exact htm) (fun y e => hlt y (h1 ▸ e))
              · exact slowF_ok h
            · exact slowF_ok h
          · exact slowF_ok h
        · exact slowF_ok h
  · split at h
    · rename_i bj hb
      split at h
      · rename_i hc
        exact .more (step_draw_pass hb hc) (hL _ _ _ _ _ h)
      · exact slowF_ok h
    · exact slowF_ok h

theorem runOps_ok {kf : List Oper → Tr AVal → St → Option SR} : ∀ (l : List Oper) (tm : Tr AVal) (st : St), runOps C ops l x.ntOf tm st kf = some sr →
    (∀ l' tm' st', kf l' tm' st' = some sr → Reach C big (x.am (.inReg ops l' :: k) tm' st') sr) → Reach C big (x.am (.inReg ops l :: k) tm st) sr
  | [], tm, st, h, hk => hk _ _ _ h
  | o :: r, tm, st, h, hk => by
    have h : (Dec.rec
      (fun d f => Option.rec (kf (o :: r) tm st) (fun v => Bool.rec (kf (o :: r) tm st) (v.forceF fun v => tm.setB (Nat.succ d) v fun tm => runOps C ops r x.ntOf tm st kf) (Nat.ble (Nat.succ d) x.ntOf)) (f tm st))
      (fun d f => Option.rec (kf (o :: r) tm st) (fun p => Prod.rec (fun v st' => Option.rec (runOps C ops r x.ntOf tm st' kf) (fun d => Bool.rec (kf (o :: r) tm st) (v.forceF fun v => tm.setB (Nat.succ d) v fun tm => runOps C ops r x.ntOf tm st' kf) (Nat.ble (Nat.succ d) x.ntOf)) d) p) (f tm st))
      (kf (o :: r) tm st)
      (dec C ops o) : Option SR) = some sr := h
    cases hdec : dec C ops o with
    | slow => rw [hdec] at h; exact hk _ _ _ h
    | val d f =>
      rw [hdec] at h
      cases hf : f tm st with
      | none => simp only [hf] at h; exact hk _ _ _ h
      | some v =>
        simp only [hf] at h
        cases hb : Nat.ble (Nat.succ d) x.ntOf with
        | false => simp only [hb] at h; exact hk _ _ _ h
        | true =>
          simp only [hb, forceF_eq] at h
          rw [show tm.setB (Nat.succ d) v _ = _ from Tr.setB_eq _ _ _ _] at h
          rw [Ctx.ntOf_eq] at hb
          obtain ⟨h1, h2⟩ := dec_val hdec hf
          exact .more (step_inReg h2 (by rw [h1]; rfl) (fun y e => by rw [h1] at e; cases e; exact of_ble hb)) (runOps_ok r _ _ h hk)
    | eff d f =>
      rw [hdec] at h
      cases hf : f tm st with
      | none => simp only [hf] at h; exact hk _ _ _ h
      | some p =>
        obtain ⟨v, s'⟩ := p
        simp only [hf] at h
        obtain ⟨h1, h2⟩ := dec_eff hdec hf
        cases d with
        | none => exact .more (step_inReg h2 (by rw [h1]; rfl) (fun y e => by rw [h1] at e; cases e)) (runOps_ok r _ _ h hk)
        | some d =>
          cases hb : Nat.ble (Nat.succ d) x.ntOf with
          | false => simp only [hb] at h; exact hk _ _ _ h
          | true =>
            simp only [hb, forceF_eq] at h
            rw [show tm.setB (Nat.succ d) v _ = _ from Tr.setB_eq _ _ _ _] at h
            rw [Ctx.ntOf_eq] at hb
            exact .more (step_inReg h2 (by rw [h1]; rfl) (fun y e => by rw [h1] at e; cases e; exact of_ble hb)) (runOps_ok r _ _ h hk)
end
end Go.AM

namespace Go.AM
open Go.RowKit
section
variable {C : Cfg} {tm tm' : Tr AVal} {s s' : St} {v : AVal} {ops : Array Oper} {o : Oper} {big : Big} {x : Ctx} {k : List AItem} {st : St} {sr : SR} {L : Loop}

theorem argsK_eq {β : Type} (l : List EvV) (kf : List AVal → β) : argsK tm l kf = kf (l.map fun e => e.f tm) := by
  induction l generalizing kf with
  | nil => rfl
  | cons e l ih =>
    show (e.f tm).forceF (fun v => argsK tm l fun r => kf (v :: r)) = _
    rw [forceF_eq, ih]
    rfl
theorem evVs_sound : ∀ {xs : List Operand} {l : List EvV}, evVs xs = some l → evals tm xs = some (l.map fun e => e.f tm)
  | [], l, h => by simp only [evVs] at h; cases h; rfl
  | x :: xs, l, h => by
    simp only [evVs] at h
    split at h
    · rename_i f l' hf hl
      cases h
      obtain ⟨f⟩ := f
      simp only [evals, evV_sound hf, evVs_sound hl, List.map_cons]
    · cases h
theorem decK_call {f : FuncId} {l : List EvV} {body : Code} {nt : Nat} (h : decK C o = .call f l body nt) :
    ∃ c fn, o.guard = none ∧ o.op = .call c ∧ c.callee = .value (.func f) ∧ evVs c.args.toList = some l ∧ C.fns.get f = some fn ∧ fn.body = some body ∧ nt = l.length + (fn.ntmps - l.length) := by
  unfold decK at h
  split at h
  · cases h
  · split at h
    · cases h
    · rename_i hg
      split at h
      · rename_i c hc
        split at h
        · rename_i f' hf
          split at h
          · rename_i l' hl
            split at h
            · rename_i fn hfn
              split at h
              · rename_i b hb
                rw [strictN_eq, strictN_eq] at h
                cases h
                exact ⟨c, fn, hg, hc, hf, hl, hfn, hb, rfl⟩
              · cases h
            · cases h
          · cases h
        · cases h
      · cases h
theorem Ctx.frame_eq (x : Ctx) (todo : List AItem) (tm : Tr AVal) : x.frame todo tm = x.frOf todo tm := by cases x; rfl
theorem Ctx.above_eq (x : Ctx) : x.above = x.callers := by cases x; rfl
theorem callF_ok (hL : LoopOK C big L) {r : List Oper} {f : FuncId} {l : List EvV} {body : Code} {nt : Nat} (hk : decK C o = .call f l body nt)
    (h : callF big L f l body nt (slowF C big x (.inReg ops (o :: r) :: k) tm st) (.inReg ops (o :: r) :: k) x tm st = some sr) : Reach C big (x.am (.inReg ops (o :: r) :: k) tm st) sr := by
  unfold callF at h
  rw [argsK_eq] at h
  generalize hA : (l.map fun e => e.f tm) = args at h
  cases hb : big f args st with
  | some q => rw [hb] at h; exact slowF_ok h
  | none =>
    rw [hb] at h
    have h : (Tr.leaf.setList 0 args fun tm' => L ⟨f, nt, [], false, none, x.frame (.inReg ops (o :: r) :: k) tm :: x.above⟩ [.code body] tm' st) = some sr := h
    rw [Tr.setList_eq] at h
    obtain ⟨c, fn, h1, h2, h3, h4, h5, h6, h7⟩ := decK_call hk
    refine .more (m' := Ctx.am ⟨f, nt, [], false, none, x.frame (.inReg ops (o :: r) :: k) tm :: x.above⟩ [.code body] (Tr.leaf.setL 0 args) st) ?_ (hL _ _ _ _ _ h)
    rw [Ctx.am_eq, Ctx.am_eq, Ctx.frame_eq, Ctx.above_eq]
    unfold AM.step
    simp only [Ctx.frOf]
    have hev := evVs_sound (tm := tm) h4
    rw [hA] at hev
    have ha : ∀ fr, aop C o.op tm fr x.callers st = some (.enter f args st) := by
      intro fr
      rw [h2]
      show opCall C c tm fr x.callers st = _
      simp only [opCall, hev, h3, AM.eval, callFn, h5, h6, List.nil_append, List.append_nil]
    rw [wanted_none h1, ha]
    have hlen : args.length = l.length := by rw [← hA, List.length_map]
    simp only [applyOut, hb, enterFr, h5, h6, Tr.setList_eq, hlen, h7]
theorem slowO_ok {r : List Oper} (h : slowO C big L x ops o r k tm st = some sr) : Reach C big (x.am (.inReg ops (o :: r) :: k) tm st) sr := by
  unfold slowO at h
  cases hb : decK C o with
  | call f l body nt => rw [hb] at h; exact slowF_ok h
  | next => rw [hb] at h; cases h; exact .here _
  | slow => rw [hb] at h; exact slowF_ok h

theorem decR_sound : ∀ {rs : List ResultVar} {l : List EvV}, decR rs = some l → resultsOf C tm st rs = some (l.map fun e => e.f tm)
  | [], l, h => by simp only [decR] at h; cases h; rfl
  | x :: rs, l, h => by
    simp only [decR] at h
    split at h
    · rename_i t l' hl
      rw [strictN_eq] at h
      cases h
      simp only [resultsOf, decR_sound hl, List.map_cons]
      show (match (match tm.get t with | some v => some v | none => some (.tuple [])), some (l'.map fun e => e.f tm) with | some v, some l => some (v :: l) | _, _ => none) = some ((Option.rec (.tuple []) (fun v => v) (tm.get t) : AVal) :: l'.map fun e => e.f tm)
      cases tm.get t <;> rfl
    · cases h
theorem tupleOf_eq (vs : List AVal) : tupleOf vs = (match vs with | [v] => v | _ => .tuple vs) := by
  cases vs with
  | nil => rfl
  | cons v r => cases r <;> rfl
theorem backF_ok (hL : LoopOK C big L) {slow : Option SR} {m0 : AM} {c : AFr} {rest : List AFr} (hs : slow = some sr → Reach C big m0 sr)
    (hst : ∀ m', c.mode = .run → AM.finish c v none (fun c => some (SR.one { cur := c, callers := rest, st := st })) = some (.one m') → Reach C big m' sr → Reach C big m0 sr)
    (h : backF L slow c rest v st = some sr) : Reach C big m0 sr := by
  unfold backF at h
  split at h
  · rename_i fn tm nt ops o r k defers deferred roundOf
    split at h
    · rename_i hd
      refine hst (Ctx.am ⟨fn, nt, defers, deferred, roundOf, rest⟩ (.inReg ops r :: k) tm st) rfl ?_ (hL _ _ _ _ _ h)
      simp only [AM.finish, hd, putD]
      rfl
    · rename_i d hd
      split at h
      · rename_i hn
        rw [forceF_eq] at h
        rw [show tm.setB (Nat.succ d) v _ = _ from Tr.setB_eq _ _ _ _] at h
        refine hst (Ctx.am ⟨fn, nt, defers, deferred, roundOf, rest⟩ (.inReg ops r :: k) (tm.set d v) st) rfl ?_ (hL _ _ _ _ _ h)
        have hn' : Nat.blt d nt = true := hn
        simp only [AM.finish, hd, putD, hn', force_eq, Tr.setK_eq]
        rfl
      · exact hs h
  · exact hs h
theorem retF_ok (hL : LoopOK C big L) {todo : List AItem} (ht : todo = [] ∨ ∃ k, todo = .code .ret :: k) (h : retF C L (slowF C big x todo tm st) x tm st = some sr) : Reach C big (x.am todo tm st) sr := by
  unfold retF at h
  split at h
  · rename_i fn nt c rest
    split at h
    · rename_i l hl
      rw [argsK_eq] at h
      refine backF_ok (v := tupleOf (l.map fun e => e.f tm)) (st := st) hL slowF_ok (fun m' hmode hm' hr => ?_) h
      refine .more (m' := ⟨⟨fn, tm, nt, todo, [], .returning, false, none⟩, c :: rest, st⟩) ?_ (.more (m' := m') ?_ hr)
      · rw [Ctx.am_eq]
        rcases ht with rfl | ⟨k, rfl⟩ <;> rfl
      · unfold AM.step
        simp only [stepRet]
        unfold decRs at hl
        split at hl
        · rename_i f hf
          simp only [hf, decR_sound hl]
          simp only [doReturn, hmode]
          rw [tupleOf_eq] at hm'
          exact hm'
        · cases hl
    · exact slowF_ok h
  · exact slowF_ok h
theorem step_regEnd : AM.step C big (x.am (.inReg ops [] :: k) tm st) = some (.one (x.am k tm st)) := by
  rw [Ctx.am_eq, Ctx.am_eq]; rfl
theorem opsF_ok (hL : LoopOK C big L) {l : List Oper} (h : opsF C big L ops l k x tm st = some sr) : Reach C big (x.am (.inReg ops l :: k) tm st) sr := by
  unfold opsF at h
  refine runOps_ok l tm st h fun l' tm' st' h' => ?_
  cases l' with
  | nil => exact .more step_regEnd (hL _ _ _ _ _ h')
  | cons o r => exact slowO_ok h'

theorem step_seq {a b : Code} : AM.step C big (x.am (.code (.seq a b) :: k) tm st) = some (.one (x.am (.code a :: .code b :: k) tm st)) := by rw [Ctx.am_eq, Ctx.am_eq]; rfl
theorem step_region {id : Nat} : AM.step C big (x.am (.code (.region id ops false) :: k) tm st) = some (.one (x.am (.inReg ops ops.toList :: k) tm st)) := by rw [Ctx.am_eq, Ctx.am_eq]; rfl
theorem step_draw {id : Nat} (hr : regOk ops (Region.before ops).toList (enum 0 ops.toList) = true) : AM.step C big (x.am (.code (.region id ops true) :: k) tm st) = some (.one (x.am (.inDraw ops (Region.before ops).toList 0 (enum 0 ops.toList) none :: k) tm st)) := by
  rw [Ctx.am_eq, Ctx.am_eq]
  unfold AM.step
  simp only [Ctx.frOf, stepCode, hr]

theorem codeF_ok (hL : LoopOK C big L) {c : Code} (h : codeF C big L c k x tm st = some sr) : Reach C big (x.am (.code c :: k) tm st) sr := by
  unfold codeF at h
  unfold decC at h
  split at h
  · exact .more step_region (opsF_ok hL h)
  · exact .more step_seq (.more step_region (opsF_ok hL h))
  · rw [before_eq] at h
    split at h
    · rename_i hr
      exact .more (step_draw hr) (hL _ _ _ _ _ h)
    · exact slowF_ok h
  · exact .more step_seq (hL _ _ _ _ _ h)
  · rename_i c a b
    split at h
    · rename_i f hx
      have he := evV_sound (tm := tm) hx
      have h : ((f tm).onBool (slowF C big x (.code (.cond c a b) :: k) tm st) fun v => Bool.rec (L x (.code b :: k) tm st) (L x (.code a :: k) tm st) v) = some sr := h
      revert h he
      cases f tm with
      | bool q =>
        intro he h
        cases q with
        | false => 
          refine .more (m' := x.am (.code b :: k) tm st) ?_ (hL _ _ _ _ _ h)
          rw [Ctx.am_eq, Ctx.am_eq]; unfold AM.step; simp only [Ctx.frOf, stepCode, he]
        | true =>
          refine .more (m' := x.am (.code a :: k) tm st) ?_ (hL _ _ _ _ _ h)
          rw [Ctx.am_eq, Ctx.am_eq]; unfold AM.step; simp only [Ctx.frOf, stepCode, he]
      | _ => intro he h; exact slowF_ok h
    · exact slowF_ok h
  · refine .more ?_ (hL _ _ _ _ _ h); rw [Ctx.am_eq, Ctx.am_eq]; rfl
  · refine .more ?_ (hL _ _ _ _ _ h); rw [Ctx.am_eq, Ctx.am_eq]; rfl
  · refine .more ?_ (hL _ _ _ _ _ h); rw [Ctx.am_eq, Ctx.am_eq]; rfl
  · refine .more ?_ (hL _ _ _ _ _ h); rw [Ctx.am_eq, Ctx.am_eq]; rfl
  · refine .more ?_ (hL _ _ _ _ _ h); rw [Ctx.am_eq, Ctx.am_eq]; rfl
  · rename_i id
    have h : (Option.rec (slowF C big x (.code (.exit id) :: k) tm st) (fun k => L x k tm st) (AM.exitTo id k) : Option SR) = some sr := h
    cases he : AM.exitTo id k with
    | none => rw [he] at h; exact slowF_ok h
    | some k' =>
      rw [he] at h
      refine .more ?_ (hL _ _ _ _ _ h)
      rw [Ctx.am_eq, Ctx.am_eq]; unfold AM.step; simp only [Ctx.frOf, stepCode, he]
  · exact retF_ok hL (.inr ⟨k, rfl⟩) h
  · exact slowF_ok h

theorem itemF_ok (hL : LoopOK C big L) {i : AItem} (h : itemF C big L i k x tm st = some sr) : Reach C big (x.am (i :: k) tm st) sr := by
  cases i with
  | code c => exact codeF_ok hL h
  | inBlock id => refine .more ?_ (hL _ _ _ _ _ h); rw [Ctx.am_eq, Ctx.am_eq]; rfl
  | inLoop c => refine .more ?_ (hL _ _ _ _ _ h); rw [Ctx.am_eq, Ctx.am_eq]; rfl
  | inScope c => refine .more ?_ (hL _ _ _ _ _ h); rw [Ctx.am_eq, Ctx.am_eq]; rfl
  | inReg ops l => exact opsF_ok hL h
  | inDraw ops bf dn rest pend => exact drawF_ok hL h
  | inRange l => exact slowF_ok h
  | endRange l => exact slowF_ok h
  | beginRound => exact slowF_ok h
theorem loopF_ok : ∀ n, LoopOK C big (loopF C big n)
  | 0, x, todo, tm, st, sr, h => by cases h; exact .here _
  | n + 1, x, todo, tm, st, sr, h => by
    cases todo with
    | nil => exact retF_ok (loopF_ok n) (.inl rfl) h
    | cons i k => exact itemF_ok (loopF_ok n) h
theorem stepF_ok {m : AM} (h : stepF C big m = some sr) : Reach C big m sr := by
  obtain ⟨⟨fn, tm, nt, todo, defers, mode, deferred, roundOf⟩, callers, st⟩ := m
  cases mode with
  | returning => exact .last h
  | run =>
    have h : (Bool.rec (loopF C big 400 ⟨fn, nt, defers, deferred, roundOf, callers⟩ todo tm st) (AM.step C big ⟨⟨fn, tm, nt, todo, defers, .run, deferred, roundOf⟩, callers, st⟩) (atNext todo) : Option SR) = some sr := h
    cases hb : atNext todo with
    | true => rw [hb] at h; exact .last h
    | false =>
      rw [hb] at h
      exact loopF_ok 400 _ _ _ _ _ h

/-! ### the exploration -/
theorem Reach.inv {h0 : Tr ABlk} (hb : BigInv big) {m : AM} (r : Reach C big m sr) (hi : Inv h0 m.st) : SRInv h0 sr := by
  induction r with
  | here m => exact hi
  | last h => exact step_inv hb h hi
  | more h r ih => exact ih (step_inv hb h hi)
variable {θ : Th} {base : Nat} {dep : Nat → Option Nat} {O : Nat → ABlk → Prop} {csT : List Frame} {f : Frame} {cs : List Frame} {w : World}
theorem Reach.sound (hC : CfgOK C) (hmix : C.P.follows .mixedOrders = true) (hbig : BigOK C big) {m : AM} (r : Reach C big m sr) (R : MR C θ base dep O csT m f cs w) : SRok C (lone f cs w) θ base O csT w sr := by
  induction r generalizing θ dep f cs w with
  | here m => exact ⟨θ, dep, f, cs, w, Steps.refl _ _, R, Th.le_refl _, Below.refl _ _⟩
  | last h => exact step_sound hC hmix hbig R h
  | more h r ih =>
    obtain ⟨θ', dep', f', cs', w', h1, h2, h3, h4⟩ := step_sound hC hmix hbig R h
    exact SRok.after h1 h3 h4 (ih h2)

variable {h0 h1 : Tr ABlk}
theorem common_spec {β : Type} (la lb : List (Nat × ABlk)) (kf : List (Nat × ABlk) → List (Nat × ABlk) → List (Nat × ABlk) → β) : ∃ P a b, la = P ++ a ∧ lb = P ++ b ∧ common la lb kf = kf P a b := by
  induction la generalizing lb kf with
  | nil => exact ⟨[], [], lb, rfl, rfl, rfl⟩
  | cons p la ih =>
    cases lb with
    | nil => exact ⟨[], p :: la, [], rfl, rfl, rfl⟩
    | cons q lb =>
      have e : common (p :: la) (q :: lb) kf = (Bool.rec (kf [] (p :: la) (q :: lb)) (common la lb fun P a b => kf (p :: P) a b) (Nat.beq p.1 q.1 && blkBeq p.2 q.2) : β) := rfl
      cases hb : (Nat.beq p.1 q.1 && blkBeq p.2 q.2) with
      | false => exact ⟨[], p :: la, q :: lb, rfl, rfl, by rw [e, hb]⟩
      | true =>
        obtain ⟨P, a, b, h1, h2, h3⟩ := ih lb fun P a b => kf (p :: P) a b
        rw [Bool.and_eq_true] at hb
        have hpq : p = q := Prod.ext (of_nbeq hb.1) (blkBeq_eq hb.2)
        refine ⟨p :: P, a, b, by rw [h1]; rfl, by rw [h2, hpq]; rfl, ?_⟩
        rw [e, hb.1, hb.2]
        exact h3
theorem finalOf_append (o : Option ABlk) (b : Nat) : ∀ (l l' : List (Nat × ABlk)), finalOf o b (l ++ l') = finalOf (finalOf o b l') b l
  | [], l' => rfl
  | (c, x) :: r, l' => by
    show (match Nat.beq c b with | true => some x | false => finalOf o b (r ++ l')) = (match Nat.beq c b with | true => some x | false => finalOf (finalOf o b l') b r)
    rw [finalOf_append o b r l']
theorem finalOf_in {o o' : Option ABlk} {b : Nat} : ∀ {l : List (Nat × ABlk)} {x : ABlk}, (b, x) ∈ l → finalOf o b l = finalOf o' b l
  | [], x, h => by simp at h
  | (c, y) :: r, x, h => by
    unfold finalOf
    split
    · rfl
    · rename_i hb
      rcases List.mem_cons.1 h with e | h
      · cases e; rw [nbeq_true rfl] at hb; cases hb
      · exact finalOf_in h
theorem finalOf_not {o : Option ABlk} {b : Nat} {l : List (Nat × ABlk)} (h : ∀ x, (b, x) ∉ l) : finalOf o b l = o := by
  rcases finalOf_cases o b l with ⟨x, k1, _⟩ | ⟨_, k2⟩
  · exact absurd k1 (h x)
  · exact k2
theorem deads_spec {P a b' : List (Nat × ABlk)} : ∀ (l : List (Nat × ABlk)) (acc ks : List Nat), deads h0 h1 P a b' l acc = some ks → (∀ n ∈ acc, h0.get n = none) →
    (∀ n ∈ ks, h0.get n = none) ∧ (∀ n ∈ acc, n ∈ ks) ∧ ∀ p ∈ l, p.1 ∈ ks ∨ finalOf (h1.get p.1) p.1 (P ++ a) = finalOf (h1.get p.1) p.1 (P ++ b')
  | [], acc, ks, h, ha => by
    simp only [deads] at h; cases h
    exact ⟨ha, fun _ h => h, fun p hp => by simp at hp⟩
  | (n, y) :: l, acc, ks, h, ha => by
    have skip : deads h0 h1 P a b' l acc = some ks → (n ∈ acc ∨ finalOf (h1.get n) n (P ++ a) = finalOf (h1.get n) n (P ++ b')) →
        (∀ n ∈ ks, h0.get n = none) ∧ (∀ n ∈ acc, n ∈ ks) ∧ ∀ p ∈ (n, y) :: l, p.1 ∈ ks ∨ finalOf (h1.get p.1) p.1 (P ++ a) = finalOf (h1.get p.1) p.1 (P ++ b') := by
      intro h hor
      obtain ⟨h1, h2, h3⟩ := deads_spec l acc ks h ha
      refine ⟨h1, h2, fun p hp => ?_⟩
      rcases List.mem_cons.1 hp with rfl | hp
      · exact hor.imp (h2 n) id
      · exact h3 p hp
    simp only [deads] at h
    split at h
    · rename_i hany
      rw [List.any_eq_true] at hany
      obtain ⟨m, hm, he⟩ := hany
      have := of_nbeq he
      subst this
      exact skip h (.inl hm)
    · split at h
      · rename_i z hz
        refine skip h (.inr ?_)
        rw [finalOf_append, finalOf_append]
        rcases finalOf_cases none n P with ⟨x, k1, _⟩ | ⟨_, k2⟩
        · exact finalOf_in k1
        · rw [k2] at hz; cases hz
      · rename_i hz
        have hP : ∀ x, (n, x) ∉ P := by
          intro x hx
          rcases finalOf_cases none n P with ⟨z, _, k2⟩ | ⟨k1, _⟩
          · rw [k2] at hz; cases hz
          · exact k1 x hx
        split at h
        · rename_i x hx
          obtain ⟨e1, e2⟩ := meetBlk_some hx
          refine skip h (.inr ?_)
          rw [finalOf_append, finalOf_append, finalOf_not hP, finalOf_not hP]
          rw [show h1.getB (Nat.succ n) = h1.get n from Tr.getB_eq _ _] at e1 e2
          rw [e1, e2]
        · split at h
          · rename_i hn
            rw [show h0.getB (Nat.succ n) = h0.get n from Tr.getB_eq _ _] at hn
            obtain ⟨h1, h2, h3⟩ := deads_spec l (n :: acc) ks h (by
              intro m hm
              rcases List.mem_cons.1 hm with rfl | hm
              · exact hn
              · exact ha m hm)
            refine ⟨h1, fun m hm => h2 m (by simp [hm]), fun p hp => ?_⟩
            rcases List.mem_cons.1 hp with rfl | hp
            · exact .inl (h2 n (by simp))
            · exact h3 p hp
          · cases h
theorem kill_spec {β : Type} : ∀ (l : List Nat) (h : Tr ABlk) (lg : List (Nat × ABlk)) (k : Tr ABlk → List (Nat × ABlk) → β), ∃ h' lg', kill l h lg k = k h' lg' ∧ (∀ b, h'.get b = if b ∈ l then some .dead else h.get b) ∧
    ((∀ b, h.get b = finalOf (h1.get b) b lg) → ∀ b, h'.get b = finalOf (h1.get b) b lg')
  | [], h, lg, k => ⟨h, lg, rfl, by simp, id⟩
  | n :: l, h, lg, k => by
    have e : kill (n :: l) h lg k = kill l (h.set n .dead) ((n, .dead) :: lg) k := by
      show h.setB (Nat.succ n) .dead (fun h => kill l h ((n, .dead) :: lg) k) = _
      exact Tr.setB_eq _ _ _ _
    obtain ⟨h', lg', e1, e2, e3⟩ := kill_spec l (h.set n .dead) ((n, .dead) :: lg) k
    refine ⟨h', lg', by rw [e, e1], fun b => ?_, fun hi => e3 fun b => ?_⟩
    · rw [e2, Tr.get_set]
      by_cases hb : b = n
      · subst hb; simp
      · by_cases hl : b ∈ l
        · simp [hl]
        · simp [hl, hb]
    · rw [Tr.get_set]
      unfold finalOf
      by_cases hb : b = n
      · rw [if_pos hb, nbeq_true hb.symm]
      · rw [if_neg hb, nbeq_false (fun e' => hb e'.symm)]
        exact hi b
theorem mergeF_spec : ∀ (l : List (Option (AVal × St))) (v : AVal) (s : St), mergeF h0 h1 l = some (v, s) → (∀ v' s', some (v', s') ∈ l → Inv h1 s') → Inv h1 s ∧ ∀ p ∈ l, ∃ s', p = some (v, s') ∧ Dim h0 s'.heap s.heap
  | [], v, s, h, _ => by simp [mergeF] at h
  | [x], v, s, h, hi => by
    simp only [mergeF] at h
    subst h
    exact ⟨hi v s (by simp), fun p hp => ⟨s, List.mem_singleton.1 hp, Dim.refl _ _⟩⟩
  | x :: y :: r, v, s, h, hi => by
    unfold mergeF at h
    split at h
    · rename_i v1 s1 v2 s2 hm
      obtain ⟨i2, h2⟩ := mergeF_spec (y :: r) v2 s2 hm fun v' s' hp => hi v' s' (by simp only [List.mem_cons] at hp ⊢; exact .inr hp)
      have i1 := hi v1 s1 (by simp)
      split at h
      · rename_i hv
        have hv := beqV_eq _ _ _ hv
        subst hv
        obtain ⟨P, a, b', e1, e2, e3⟩ := common_spec s1.log s2.log fun P a b => match deads h0 h1 P a b (a ++ b) [] with
          | some ks => kill ks s2.heap s2.log fun h lg => strictN (max s1.next s2.next) fun n => some (v1, ({ heap := h, next := n, log := lg } : St))
          | none => none
        have h := e3.symm.trans h
        split at h
        · rename_i ks hks
          obtain ⟨h', lg', q1, q2, q3⟩ := kill_spec (h1 := h1) ks s2.heap s2.log fun h lg => strictN (max s1.next s2.next) fun n => some (v1, ({ heap := h, next := n, log := lg } : St))
          rw [q1, strictN_eq] at h
          cases h
          obtain ⟨d1, _, d3⟩ := deads_spec _ _ _ hks (by simp)
          have same : ∀ b, b ∉ ks → s1.heap.get b = s2.heap.get b := by
            intro b hb
            rw [i1 b, i2 b, e1, e2]
            rcases finalOf_cases (h1.get b) b a with ⟨x, g1, _⟩ | ⟨g1, g2⟩
            · exact (d3 (b, x) (by simp [g1])).resolve_left hb
            · rcases finalOf_cases (h1.get b) b b' with ⟨x, k1, _⟩ | ⟨k1, k2⟩
              · exact (d3 (b, x) (by simp [k1])).resolve_left hb
              · rw [finalOf_append, finalOf_append, g2, k2]
          have D2 : Dim h0 s2.heap h' := by
            constructor
            · intro b; rw [q2]; split
              · exact .inl rfl
              · exact .inr rfl
            · intro b hb; rw [q2, if_neg (fun hk => hb (d1 b hk))]
          have D1 : Dim h0 s1.heap h' := by
            constructor
            · intro b; rw [q2]; split
              · exact .inl rfl
              · rename_i hb; exact .inr (same b hb).symm
            · intro b hb
              have hk : b ∉ ks := fun hk => hb (d1 b hk)
              rw [q2, if_neg hk, same b hk]
          refine ⟨q3 i2, fun p hp => ?_⟩
          rcases List.mem_cons.1 hp with rfl | hp
          · exact ⟨s1, rfl, D1⟩
          · obtain ⟨s', e, d⟩ := h2 p hp
            exact ⟨s', e, d.trans D2⟩
        · cases h
      · cases h
    · cases h

theorem Inv.join {s1 : St} (a : Inv h0 s) (b : Inv s.heap s1) : Inv h0 { s1 with log := s1.log ++ s.log } := by
  intro c
  show s1.heap.get c = _
  rw [b c, a c]
  exact (finalOf_append _ _ _ _).symm

theorem exploreF_succ {g : FuncId} {n : Nat} {m : AM} : exploreF C big g h0 (n + 1) m = (match stepF C big m with
    | some (.one m) => exploreF C big g h0 n m
    | some (.done g' v s) => match Nat.beq g' g with | true => some (v, s) | false => none
    | some (.many _) => match atNext m.cur.todo with
      | true => match AM.step C big { m with st := { m.st with log := [] } } with
        | some (.many l) => match mergeF h0 m.st.heap (l.map (exploreF C big g h0 n)) with
          | some (v, s) => some (v, { s with log := s.log ++ m.st.log })
          | none => none
        | _ => none
      | false => none
    | none => none) := rfl
theorem Inv.start (s : St) : Inv s.heap { s with log := [] } := fun _ => rfl
theorem exploreF_inv {g : FuncId} (hb : BigInv big) : ∀ (n : Nat) (h1 : Tr ABlk) (m : AM) (v : AVal) (s : St), exploreF C big g h0 n m = some (v, s) → Inv h1 m.st → Inv h1 s
  | 0, h1, m, v, s, h, _ => by cases h
  | n + 1, h1, m, v, s, h, hi => by
    rw [exploreF_succ] at h
    split at h
    · rename_i m' hs
      exact exploreF_inv hb n h1 m' v s h ((stepF_ok hs).inv hb hi)
    · rename_i g' v' s' hs
      have : Inv h1 s' := (stepF_ok hs).inv hb hi
      split at h
      · cases h; exact this
      · cases h
    · split at h
      case h_2 => cases h
      split at h
      · rename_i l hs
        have hl : ∀ m' ∈ l, Inv m.st.heap m'.st := step_inv hb hs (Inv.start m.st)
        split at h
        · rename_i v1 s1 hm
          cases h
          have := (mergeF_spec _ _ _ hm fun v' s' hp => by
            rw [List.mem_map] at hp
            obtain ⟨m', hm', he⟩ := hp
            exact exploreF_inv hb n _ m' v' s' he (hl m' hm')).1
          exact hi.join this
        · cases h
      · cases h
    · cases h
theorem atNext_waits {fr : AFr} (h : atNext fr.todo = true) : Waits fr := by
  refine waits_plain fun ops bf dn rest pend k e => ?_
  rw [e] at h
  cases h
theorem MR.relog {m : AM} {lg : List (Nat × ABlk)} (hn : atNext m.cur.todo = true) (R : MR C θ base dep O csT m f cs w) : MR C θ base dep O csT { m with st := { m.st with log := lg } } f cs w := by
  refine ⟨R.W, R.cur.mono (Th.le_refl _) (fun b x h1 h2 h3 => ⟨h3, h1, h2⟩) (.inl (.inl (atNext_waits hn))), CsR.mono (s := m.st) (s' := { m.st with log := lg }) (dep' := dep) (Th.le_refl _) (fun b x n _ h1 h2 h3 => ⟨h3, h1, h2⟩) R.callers, R.out⟩
theorem exploreF_sound (hC : CfgOK C) (hmix : C.P.follows .mixedOrders = true) (hbig : BigOK C big) (hb : BigInv big) {g : FuncId} (hO : ∀ b x, O b x → h0.get b ≠ none) :
    ∀ (n : Nat) (m : AM) (v : AVal) (s : St) (θ : Th) (dep : Nat → Option Nat) (f : Frame) (cs : List Frame) (w : World), exploreF C big g h0 n m = some (v, s) → MR C θ base dep O csT m f cs w → SRok C (lone f cs w) θ base O csT w (.done g v s)
  | 0, m, v, s, θ, dep, f, cs, w, h, _ => by cases h
  | n + 1, m, v, s, θ, dep, f, cs, w, h, R => by
    rw [exploreF_succ] at h
    split at h
    · rename_i m' hs
      obtain ⟨θ', dep', f', cs', w', h1, h2, h3, h4⟩ := (stepF_ok hs).sound hC hmix hbig R
      exact SRok.after h1 h3 h4 (exploreF_sound hC hmix hbig hb hO n m' v s θ' dep' f' cs' w' h h2)
    · rename_i g' v' s' hs
      have hsr := (stepF_ok hs).sound hC hmix hbig R
      split at h
      · rename_i hg
        cases h
        rw [← of_nbeq hg]
        exact hsr
      · cases h
    · split at h
      case h_2 => cases h
      rename_i han
      split at h
      · rename_i l hs
        have hl : ∀ m' ∈ l, Inv m.st.heap m'.st := step_inv hb hs (Inv.start m.st)
        obtain ⟨m', hm', θ', dep', f', cs', w', h1, h2, h3, h4⟩ := step_sound hC hmix hbig (R.relog han) hs
        split at h
        · rename_i v1 s1 hm
          cases h
          obtain ⟨_, hsp⟩ := mergeF_spec _ _ _ hm fun v' s' hp => by
            rw [List.mem_map] at hp
            obtain ⟨m', hm', he⟩ := hp
            exact exploreF_inv hb n _ m' v' s' he (hl m' hm')
          obtain ⟨s', e, D⟩ := hsp (exploreF C big g h0 n m') (List.mem_map.2 ⟨m', hm', rfl⟩)
          have hr := SRok.after h1 h3 h4 (exploreF_sound hC hmix hbig hb hO n m' v s' θ' dep' f' cs' w' e h2)
          obtain ⟨θ2, f2, w2, v2, k1, k2, k3, k4, k5, k6, k7, k8⟩ := hr
          exact ⟨θ2, f2, w2, v2, k1, k2, k3, k4, k5.dim D, k6, k7, fun b x hx => ⟨(k8 b x hx).1, by rw [show ({ s1 with log := s1.log ++ m.st.log } : St).heap = s1.heap from rfl, D.2 b (hO b x hx)]; exact (k8 b x hx).2⟩⟩
        · cases h
      · cases h
    · cases h

/-! ### what is forgotten at the head of a loop over a map -/
noncomputable def fgt (v : AVal) : AVal := Bool.rec .any v (isAggV v)
noncomputable def fgtV (v : AVal) : AVal := match v with | .agg l => .agg (l.map fgt) | _ => .any
theorem forgetC_eq {β : Type} (l : List AVal) (kf : List AVal → β) : forgetC l kf = kf (l.map fgt) := by
  induction l generalizing kf with
  | nil => rfl
  | cons x l ih =>
    have e : forgetC (x :: l) kf = forgetC l (fun q => (Bool.rec (kf (.any :: q)) (kf (x :: q)) (isAggV x) : β)) := rfl
    rw [e, ih]
    simp only [List.map_cons, fgt]
    cases isAggV x <;> rfl
theorem forgetK_eq {β : Type} (v : AVal) (kf : AVal → β) : forgetK v kf = kf (fgtV v) := by
  unfold forgetK fgtV
  split
  · exact forgetC_eq _ _
  · rename_i h
    cases v <;> first | exact absurd rfl (h _) | rfl
theorem VR.fgt_any {a : AVal} {u : Value} (h : VR θ a u) (ha : ∀ l, a ≠ .agg l) : VR θ .any u := by
  simp only [VR]
  rintro cs rfl
  obtain ⟨l, e⟩ := h.of_agg
  exact ha l e
theorem VR.fgt {a : AVal} {u : Value} (h : VR θ a u) : VR θ (AM.fgt a) u := by
  unfold AM.fgt
  cases hb : isAggV a with
  | true => exact h
  | false => exact h.fgt_any fun l e => by rw [e] at hb; cases hb
theorem VRs.fgt : ∀ {l : List AVal} {us : List Value}, VRs θ l us → VRs θ (l.map AM.fgt) us
  | [], us, h => by simpa only [List.map_nil, VRs] using h
  | a :: l, us, h => by
    simp only [VRs] at h
    obtain ⟨u, r, rfl, h1, h2⟩ := h
    exact VRs.cons h1.fgt (VRs.fgt h2)
theorem VR.fgtV {a : AVal} {u : Value} (h : VR θ a u) : VR θ (AM.fgtV a) u := by
  unfold AM.fgtV
  split
  · simp only [VR] at h ⊢
    obtain ⟨cs, e, h1⟩ := h
    exact ⟨cs, e, h1.fgt⟩
  · rename_i hne
    exact h.fgt_any fun l e => hne l e
theorem forgetL_spec {β : Type} {nt : Nat} {ts : Array Value} : ∀ (D : List Nat) (tm : Tr AVal) (kf : Tr AVal → β), ∃ tm', forgetL D tm kf = kf tm' ∧ (TR θ tm nt ts → TR θ tm' nt ts)
  | [], tm, kf => ⟨tm, rfl, id⟩
  | d :: D, tm, kf => by
    have e : forgetL (d :: D) tm kf = forgetL D (tm.set d (AM.fgtV ((tm.get d).getD (.tuple [])))) kf := by
      show forgetK (Option.rec (.tuple []) (fun v => v) (tm.getB (Nat.succ d))) (fun v => tm.setB (Nat.succ d) v fun tm => forgetL D tm kf) = _
      rw [forgetK_eq]
      rw [show tm.setB (Nat.succ d) _ _ = _ from Tr.setB_eq _ _ _ _]
      congr 2
      show AM.fgtV (Option.rec (.tuple []) (fun v => v) (tm.get d)) = _
      cases tm.get d <;> rfl
    obtain ⟨tm', e1, e2⟩ := forgetL_spec D (tm.set d (AM.fgtV ((tm.get d).getD (.tuple [])))) kf
    refine ⟨tm', e.trans e1, fun T => e2 ⟨T.1, fun d' => ?_⟩⟩
    rw [Tr.get_set]
    by_cases hd : d' = d
    · subst hd; rw [if_pos rfl]; exact (T.2 d').fgtV
    · rw [if_neg hd]; exact T.2 d'
theorem insN_spec {β : Type} (x : Nat) : ∀ (l : List Nat) (kf : List Nat → β), ∃ q, insN x l kf = kf q ∧ ∀ n, q.contains n = (n == x || l.contains n)
  | [], kf => ⟨[x], rfl, fun n => by simp [List.contains_eq_mem, Bool.beq_eq_decide_eq]⟩
  | y :: r, kf => by
    have e : insN x (y :: r) kf = (Bool.rec (insN x r fun q => kf (y :: q)) (kf (x :: y :: r)) (Nat.ble x y) : β) := rfl
    cases hb : Nat.ble x y with
    | true => exact ⟨x :: y :: r, by rw [e, hb], fun n => by rw [List.contains_cons]⟩
    | false =>
      obtain ⟨q, h1, h2⟩ := insN_spec x r fun q => kf (y :: q)
      refine ⟨y :: q, by rw [e, hb]; exact h1, fun n => ?_⟩
      rw [List.contains_cons, List.contains_cons, h2]
      cases n == y <;> cases n == x <;> rfl
theorem sortN_spec {β : Type} (since : Nat) : ∀ (l : List Nat) (kf : List Nat → β), ∃ q, sortN since l kf = kf q ∧ ∀ n, n ≠ since → q.contains n = l.contains n
  | [], kf => ⟨[], rfl, fun _ _ => rfl⟩
  | x :: l, kf => by
    have e : sortN since (x :: l) kf = (Bool.rec (sortN since l fun q => strictN x fun x => insN x q kf) (sortN since l kf) (Nat.beq x since) : β) := rfl
    cases hb : Nat.beq x since with
    | true =>
      obtain ⟨q, h1, h2⟩ := sortN_spec since l kf
      refine ⟨q, by rw [e, hb]; exact h1, fun n hn => ?_⟩
      rw [h2 n hn, List.contains_cons]
      have : (n == x) = false := by rw [of_nbeq hb]; simpa using hn
      rw [this]; rfl
    | false =>
      obtain ⟨q, h1, h2⟩ := sortN_spec since l fun q => strictN x fun x => insN x q kf
      obtain ⟨q2, h3, h4⟩ := insN_spec x q kf
      refine ⟨q2, by rw [e, hb]; exact h1.trans ((strictN_eq x fun x => insN x q kf).trans h3), fun n hn => ?_⟩
      rw [h4, h2 n hn, List.contains_cons]
theorem young_spec {b0 : Nat} : ∀ (l : List (Nat × ABlk)) (acc ks : List Nat), young h0 b0 l acc = some ks → (∀ b ∈ acc, h0.get b = none) → ∀ b ∈ ks, h0.get b = none
  | [], acc, ks, h, ha => by simp only [young] at h; cases h; exact ha
  | (b, x) :: l, acc, ks, h, ha => by
    simp only [young] at h
    split at h
    · exact young_spec l acc ks h ha
    · split at h
      · rename_i hn
        refine young_spec l (b :: acc) ks h fun c hc => ?_
        rcases List.mem_cons.1 hc with rfl | hc
        · exact hn
        · exact ha c hc
      · cases h

theorem canonK_spec {m : AM} {canon : List (FuncId × List Nat)} {β : Type} {kf : AM → List (Nat × ABlk) → Option β} {r : β} (h : canonK canon C.lo h0 m none kf = some r) :
    ∃ m' lg, kf m' lg = some r ∧ m'.st.log = [] ∧ Inv m.st.heap { m'.st with log := lg } ∧
      ((∀ b x, O b x → h0.get b ≠ none) → MR C θ base dep O csT m f cs w → MR C θ base dep O csT m' f cs w) := by
  unfold canonK at h
  split at h
  · rename_i fn tm nt ops o r' kk h' nx log
    split at h
    · rename_i D it hfind hop
      split at h
      · rename_i i hi
        split at h
        · rename_i mp since seen b0 hit hlo
          split at h
          · rename_i ks hks
            obtain ⟨h2, lg, e1, e2, e3⟩ := kill_spec (h1 := h') ks h' [] fun h lg => match h.getB (Nat.succ i) with
              | some (.miter _ _ _ _) => sortN since seen fun q => strictN since fun since => strictN b0 fun base => strictN mp fun mp => strictN fn fun fn => strictN nt fun nt =>
                h.setB (Nat.succ i) (.miter (some mp) since (q ++ [since]) base) fun h =>
                forgetL D tm fun tm => kf ⟨⟨fn, tm, nt, .inReg ops (o :: r') :: kk, [], .run, false, none⟩, [], ⟨h, base, []⟩⟩ ((i, .miter (some mp) since (q ++ [since]) base) :: lg)
              | _ => none
            have h := e1.symm.trans h
            split at h
            · rename_i y1 y2 y3 y4 hy
              obtain ⟨q, s1, s2⟩ := sortN_spec since seen fun q => strictN since fun since => strictN b0 fun base => strictN mp fun mp => strictN fn fun fn => strictN nt fun nt =>
                h2.setB (Nat.succ i) (.miter (some mp) since (q ++ [since]) base) fun h =>
                forgetL D tm fun tm => kf ⟨⟨fn, tm, nt, .inReg ops (o :: r') :: kk, [], .run, false, none⟩, [], ⟨h, base, []⟩⟩ ((i, .miter (some mp) since (q ++ [since]) base) :: lg)
              have h := s1.symm.trans h
              simp only [strictN_eq] at h
              rw [show h2.setB (Nat.succ i) _ _ = _ from Tr.setB_eq _ _ _ _] at h
              obtain ⟨tm', t1, t2⟩ := forgetL_spec (θ := θ) (nt := nt) (ts := f.tmps) D tm fun tm => kf ⟨⟨fn, tm, nt, .inReg ops (o :: r') :: kk, [], .run, false, none⟩, [], ⟨h2.set i (.miter (some mp) since (q ++ [since]) b0), b0, []⟩⟩ ((i, .miter (some mp) since (q ++ [since]) b0) :: lg)
              rw [t1] at h
              refine ⟨_, _, h, rfl, ?_, fun hO R => ?_⟩
              · intro b
                show (h2.set i _).get b = _
                rw [Tr.get_set]
                unfold finalOf
                by_cases hb : b = i
                · rw [if_pos hb, nbeq_true hb.symm]
                · rw [if_neg hb, nbeq_false (fun e' => hb e'.symm)]
                  exact e3 (fun b => rfl) b
              · have hnd : ∀ ops' bf done rest pend k, (AItem.inReg ops (o :: r') :: kk) ≠ .inDraw ops' bf done rest pend :: k := by intro _ _ _ _ _ _ e; cases e
                obtain ⟨gm, T, I⟩ := R.cur.plain rfl hnd
                simp only at T I
                have hiv := eval_sound T hi
                simp only [VR] at hiv
                obtain ⟨L, g1, g2⟩ := hiv
                have hy' : h2.get i = some (.miter y1 y2 y3 y4) := hy
                have hit' : h'.get i = some (.miter (some mp) since seen b0) := hit
                have D1 : Dim .leaf h' h2 := ⟨fun b => by rw [e2]; split; exact .inl rfl; exact .inr rfl, fun b hb => absurd rfl hb⟩
                have W2 : WR θ C.lo base h2 w := WR.dim R.W D1
                obtain ⟨m', seen', st, k1, k2, k3⟩ := R.W.blk _ _ _ hit' g1
                have hB : BR θ (.miter (some mp) since (q ++ [since]) b0) L w.heap[L.cb]? := by
                  refine ⟨m', seen', st, k1, ⟨fun n hn => ?_, .inl (by simp)⟩, k3⟩
                  rw [k2.1 n hn, ← s2 n hn]
                  have : (n == since) = false := by simpa using hn
                  simp only [List.contains_eq_mem, List.mem_append, List.mem_singleton, Bool.decide_or]
                  rw [show decide (n = since) = false from by simpa using hn, Bool.or_false]
                have W3 : WR θ C.lo base (h2.set i (.miter (some mp) since (q ++ [since]) b0)) w := W2.update (of_ble hlo) hy' (by simp) g1 (fun _ _ => rfl) rfl hB
                refine ⟨W3, ⟨R.cur.fn, R.cur.kind, R.cur.rnd, R.cur.defs, ⟨gm, .inl ⟨t2 T, I⟩⟩⟩, R.callers, fun b x hx => ?_⟩
                obtain ⟨o1, o2, o3⟩ := R.out b x hx
                refine ⟨o1, ?_, o3⟩
                show (h2.set i _).get b = some x
                rw [Tr.get_set, if_neg (by rintro rfl; rw [g1] at o1; cases o1), e2, if_neg ?_]
                · exact o2
                · intro hk
                  exact hO b x hx (young_spec _ _ _ hks (by simp) b hk)
            · cases h
          · cases h
        · cases h
      · cases h
    · cases h
  · cases h

theorem forkRun_inv {g : FuncId} {ih : AM → Option (AVal × St)} (hb : BigInv big) (hih : ∀ h1 m v s, ih m = some (v, s) → Inv h1 m.st → Inv h1 s) {m : AM} {v : AVal} {s : St} (hl : m.st.log = [])
    (h : forkRun C big g h0 ih m = some (v, s)) : Inv m.st.heap s := by
  have hi : Inv m.st.heap m.st := by intro b; rw [hl]; rfl
  unfold forkRun at h
  split at h
  · rename_i l hs
    have hls : ∀ m' ∈ l, Inv m.st.heap m'.st := step_inv hb hs hi
    refine (mergeF_spec _ _ _ h fun v' s' hp => ?_).1
    rw [List.mem_map] at hp
    obtain ⟨m', hm', he⟩ := hp
    exact hih _ m' v' s' he (hls m' hm')
  · rename_i m' hs
    exact hih _ m' v s h (step_inv hb hs hi)
  · rename_i g' v' s' hs
    have : Inv m.st.heap s' := step_inv hb hs hi
    split at h
    · cases h; exact this
    · cases h
  · cases h
theorem forkRun_sound (hC : CfgOK C) (hmix : C.P.follows .mixedOrders = true) (hbig : BigOK C big) (hb : BigInv big) {g : FuncId} {ih : AM → Option (AVal × St)}
    (hinv : ∀ h1 m v s, ih m = some (v, s) → Inv h1 m.st → Inv h1 s) (hO : ∀ b x, O b x → h0.get b ≠ none)
    (hih : ∀ m v s θ dep f cs w, ih m = some (v, s) → MR C θ base dep O csT m f cs w → SRok C (lone f cs w) θ base O csT w (.done g v s)) {m : AM} {v : AVal} {s : St} (hl : m.st.log = [])
    (h : forkRun C big g h0 ih m = some (v, s)) (R : MR C θ base dep O csT m f cs w) : SRok C (lone f cs w) θ base O csT w (.done g v s) := by
  have hi : Inv m.st.heap m.st := by intro b; rw [hl]; rfl
  unfold forkRun at h
  split at h
  · rename_i l hs
    have hls : ∀ m' ∈ l, Inv m.st.heap m'.st := step_inv hb hs hi
    obtain ⟨m', hm', θ', dep', f', cs', w', h1, h2, h3, h4⟩ := step_sound hC hmix hbig R hs
    obtain ⟨_, hsp⟩ := mergeF_spec _ _ _ h fun v' s' hp => by
      rw [List.mem_map] at hp
      obtain ⟨m', hm', he⟩ := hp
      exact hinv _ m' v' s' he (hls m' hm')
    obtain ⟨s', e, D⟩ := hsp (ih m') (List.mem_map.2 ⟨m', hm', rfl⟩)
    have hr := SRok.after h1 h3 h4 (hih m' v s' θ' dep' f' cs' w' e h2)
    obtain ⟨θ2, f2, w2, v2, k1, k2, k3, k4, k5, k6, k7, k8⟩ := hr
    exact ⟨θ2, f2, w2, v2, k1, k2, k3, k4, k5.dim D, k6, k7, fun b x hx => ⟨(k8 b x hx).1, by rw [D.2 b (hO b x hx)]; exact (k8 b x hx).2⟩⟩
  · rename_i m' hs
    obtain ⟨θ', dep', f', cs', w', h1, h2, h3, h4⟩ := step_sound hC hmix hbig R hs
    exact SRok.after h1 h3 h4 (hih m' v s θ' dep' f' cs' w' h h2)
  · rename_i g' v' s' hs
    have hsr := step_sound hC hmix hbig R hs
    split at h
    · rename_i hg
      cases h
      rw [← of_nbeq hg]
      exact hsr
    · cases h
  · cases h

theorem innerC_succ {g : FuncId} {ihd : AM → Option (AVal × St)} {n : Nat} {m : AM} : innerC C big g h0 ihd (n + 1) m = (match stepF C big m with
    | some (.one m) => innerC C big g h0 ihd n m
    | some (.done g' v s) => match Nat.beq g' g with | true => some (v, s) | false => none
    | some (.many _) => match atNext m.cur.todo with
      | true => canonK C.canon C.lo h0 m none fun m' lg => match forkRun C big g h0 ihd m' with
        | some (v, s) => strictN (Nat.add s.next 8192) fun n => some (v, { s with next := n, log := s.log ++ (lg ++ m.st.log) })
        | none => none
      | false => none
    | none => none) := rfl
theorem innerC_inv {g : FuncId} (hb : BigInv big) {ihd : AM → Option (AVal × St)} (hih : ∀ h1 m v s, ihd m = some (v, s) → Inv h1 m.st → Inv h1 s) :
    ∀ (n : Nat) (h1 : Tr ABlk) (m : AM) (v : AVal) (s : St), innerC C big g h0 ihd n m = some (v, s) → Inv h1 m.st → Inv h1 s
  | 0, h1, m, v, s, h, _ => by cases h
  | n + 1, h1, m, v, s, h, hi => by
    rw [innerC_succ] at h
    split at h
    · rename_i m' hs
      exact innerC_inv hb hih n h1 m' v s h ((stepF_ok hs).inv hb hi)
    · rename_i g' v' s' hs
      have : Inv h1 s' := (stepF_ok hs).inv hb hi
      split at h
      · cases h; exact this
      · cases h
    · split at h
      · obtain ⟨m', lg, e1, e2, e3, _⟩ := canonK_spec (θ := fun _ => none) (base := 0) (dep := fun _ => none) (O := fun _ _ => False) (csT := []) (f := default) (cs := []) (w := default) h
        split at e1
        · rename_i v1 s1 hf
          rw [strictN_eq] at e1
          cases e1
          have := forkRun_inv hb hih e2 hf
          have j1 : Inv h1 { m'.st with log := lg ++ m.st.log } := Inv.join (s1 := { m'.st with log := lg }) hi e3
          exact Inv.join (s := { m'.st with log := lg ++ m.st.log }) j1 this
        · cases e1
      · cases h
    · cases h
theorem exploreC_inv {g : FuncId} {N : Nat} (hb : BigInv big) : ∀ (d : Nat) (h1 : Tr ABlk) (m : AM) (v : AVal) (s : St), exploreC C big g h0 N d m = some (v, s) → Inv h1 m.st → Inv h1 s
  | 0, h1, m, v, s, h, _ => by cases h
  | d + 1, h1, m, v, s, h, hi => innerC_inv hb (fun h1 m v s h hi => exploreC_inv hb d h1 m v s h hi) N h1 m v s h hi
theorem innerC_sound (hC : CfgOK C) (hmix : C.P.follows .mixedOrders = true) (hbig : BigOK C big) (hb : BigInv big) {g : FuncId} {ihd : AM → Option (AVal × St)}
    (hinv : ∀ h1 m v s, ihd m = some (v, s) → Inv h1 m.st → Inv h1 s) (hO : ∀ b x, O b x → h0.get b ≠ none)
    (hih : ∀ m v s θ dep f cs w, ihd m = some (v, s) → MR C θ base dep O csT m f cs w → SRok C (lone f cs w) θ base O csT w (.done g v s)) :
    ∀ (n : Nat) (m : AM) (v : AVal) (s : St) (θ : Th) (dep : Nat → Option Nat) (f : Frame) (cs : List Frame) (w : World), innerC C big g h0 ihd n m = some (v, s) → MR C θ base dep O csT m f cs w → SRok C (lone f cs w) θ base O csT w (.done g v s)
  | 0, m, v, s, θ, dep, f, cs, w, h, _ => by cases h
  | n + 1, m, v, s, θ, dep, f, cs, w, h, R => by
    rw [innerC_succ] at h
    split at h
    · rename_i m' hs
      obtain ⟨θ', dep', f', cs', w', h1, h2, h3, h4⟩ := (stepF_ok hs).sound hC hmix hbig R
      exact SRok.after h1 h3 h4 (innerC_sound hC hmix hbig hb hinv hO hih n m' v s θ' dep' f' cs' w' h h2)
    · rename_i g' v' s' hs
      have hsr := (stepF_ok hs).sound hC hmix hbig R
      split at h
      · rename_i hg
        cases h
        rw [← of_nbeq hg]
        exact hsr
      · cases h
    · split at h
      · obtain ⟨m', lg, e1, e2, e3, e4⟩ := canonK_spec (θ := θ) (base := base) (dep := dep) (O := O) (csT := csT) (f := f) (cs := cs) (w := w) h
        split at e1
        · rename_i v1 s1 hf
          rw [strictN_eq] at e1
          cases e1
          obtain ⟨θ2, f2, w2, v2, k1, k2, k3, k4, k5, k6, k7, k8⟩ := forkRun_sound hC hmix hbig hb hinv hO hih e2 hf (e4 hO R)
          exact ⟨θ2, f2, w2, v2, k1, k2, k3, k4, k5, k6, k7, k8⟩
        · cases e1
      · cases h
    · cases h
theorem exploreC_sound (hC : CfgOK C) (hmix : C.P.follows .mixedOrders = true) (hbig : BigOK C big) (hb : BigInv big) {g : FuncId} {N : Nat} (hO : ∀ b x, O b x → h0.get b ≠ none) :
    ∀ (d : Nat) (m : AM) (v : AVal) (s : St) (θ : Th) (dep : Nat → Option Nat) (f : Frame) (cs : List Frame) (w : World), exploreC C big g h0 N d m = some (v, s) → MR C θ base dep O csT m f cs w → SRok C (lone f cs w) θ base O csT w (.done g v s)
  | 0, m, v, s, θ, dep, f, cs, w, h, _ => by cases h
  | d + 1, m, v, s, θ, dep, f, cs, w, h, R =>
    innerC_sound hC hmix hbig hb (fun h1 m v s h hi => exploreC_inv hb d h1 m v s h hi) hO (fun m v s θ dep f cs w h R => exploreC_sound hC hmix hbig hb hO d m v s θ dep f cs w h R) N m v s θ dep f cs w h R
end
end Go.AM

namespace Go.AM
open Go.RowKit
section
variable {C : Cfg} {θ θ' : Th} {s s' : St} {v : AVal} {big : Big} {w w' : World} {base : Nat}

/-! ### what is known already -/
theorem freeV_any : ∀ (n : Nat) (a : AVal) (v : Value), freeV n a = true → VR θ a v → ∀ θ', VR θ' a v
  | 0, _, _, h, _, _ => by cases h
  | n + 1, a, v, h, hv, θ' => by
    have hl : ∀ (l : List AVal) (vs : List Value), l.all (freeV n) = true → VRs θ l vs → VRs θ' l vs := by
      intro l
      induction l with
      | nil => intro vs _ h; simpa only [VRs] using h
      | cons x l ih =>
        intro vs ha hv
        simp only [VRs] at hv 
        obtain ⟨u, r, e, h1, h2⟩ := hv
        simp only [List.all_cons, Bool.and_eq_true] at ha
        exact ⟨u, r, e, freeV_any n x u ha.1 h1 θ', ih r ha.2 h2⟩
    cases a <;> (first | (cases h; done) | skip) <;> simp only [VR] at hv  <;> (first | exact hv | skip)
    all_goals
      obtain ⟨cs, e, h1⟩ := hv
      exact ⟨cs, e, hl _ _ h h1⟩

def Memo.OK (P : Program) (mm : Memo) : Prop := ∀ (θ : Th) (w : World) (args' : Array Value), (∀ b x, (b, x) ∈ mm.blks → ∃ L, θ b = some L ∧ BR θ x L w.heap[L.cb]?) →
  (∀ b L, θ b = some L → L.cb < w.heap.size ∧ ∃ x, (b, x) ∈ mm.blks) → VRs θ mm.args args'.toList → ∀ cs, ∃ w' fr' v', Steps P (lone (Frame.enter P mm.fn args' .normal) cs w) (lone fr' cs w') ∧ fr'.leaving P w' (.returned v') ∧ fr'.fn = mm.fn ∧
    (∀ θ, VR θ mm.res v') ∧ Below w.heap.size w w'

noncomputable def thr (θ : Th) (ρ : Ren) : Th := fun b => match renGet b ρ with | some y => θ y | none => none
def RenLe (ρ ρ' : Ren) : Prop := ∀ b y, renGet b ρ = some y → renGet b ρ' = some y
def RenOK (θ : Th) (ρ : Ren) : Prop := ∀ b y, renGet b ρ = some y → θ y ≠ none
theorem RenLe.refl (ρ : Ren) : RenLe ρ ρ := fun _ _ h => h
theorem RenLe.trans {a b c : Ren} (h : RenLe a b) (k : RenLe b c) : RenLe a c := fun x y e => k x y (h x y e)
theorem thr_some {ρ : Ren} {b : Nat} {L : Loc} (h : thr θ ρ b = some L) : ∃ y, renGet b ρ = some y ∧ θ y = some L := by
  unfold thr at h
  split at h
  · rename_i y hy; exact ⟨y, hy, h⟩
  · cases h
theorem thr_of {ρ : Ren} {b y : Nat} {L : Loc} (h : renGet b ρ = some y) (hy : θ y = some L) : thr θ ρ b = some L := by
  unfold thr
  rw [h]; exact hy
theorem RenLe.thr {ρ ρ' : Ren} (h : RenLe ρ ρ') : (thr θ ρ).le (thr θ ρ') := by
  intro b L hb
  obtain ⟨y, h1, h2⟩ := thr_some hb
  exact thr_of (h _ _ h1) h2
theorem bindN_spec {ρ ρ' : Ren} {b b' : Nat} (h : bindN ρ b b' = some ρ') (hθ : θ b' ≠ none) (ho : RenOK θ ρ) : RenLe ρ ρ' ∧ renGet b ρ' = some b' ∧ RenOK θ ρ' := by
  unfold bindN at h
  split at h
  · rename_i y hy
    split at h
    · rename_i he
      cases h
      exact ⟨.refl _, by rw [← of_nbeq he]; exact hy, ho⟩
    · cases h
  · rename_i hn
    cases h
    have hself : renGet b ((b, b') :: ρ) = some b' := by simp [renGet]
    refine ⟨fun x y hx => ?_, hself, fun x y hx => ?_⟩
    · by_cases e : b = x
      · subst e; rw [hn] at hx; cases hx
      · simp only [renGet, nbeq_false e]; exact hx
    · by_cases e : b = x
      · subst e; rw [hself] at hx; cases hx; exact hθ
      · simp only [renGet, nbeq_false e] at hx; exact ho x y hx
theorem matchV_spec {ρ ρ' : Ren} {a b : AVal} {u : Value} (h : matchV ρ a b = some ρ') (hv : VR θ b u) (ho : RenOK θ ρ) : RenLe ρ ρ' ∧ VR (thr θ ρ') a u ∧ RenOK θ ρ' := by
  unfold matchV at h
  split at h
  · rename_i b1 o1 b2 o2
    split at h
    · rename_i he
      simp only [VR] at hv
      obtain ⟨L, h1, h2⟩ := hv
      obtain ⟨k1, k2, k3⟩ := bindN_spec h (by rw [h1]; simp) ho
      refine ⟨k1, ?_, k3⟩
      simp only [VR]
      exact ⟨L, by simp only [thr, k2, h1], by rw [of_nbeq he]; exact h2⟩
    · cases h
  · rename_i b1 o1 n1 c1 e1 b2 o2 n2 c2 e2
    split at h
    · rename_i he
      simp only [Bool.and_eq_true] at he
      obtain ⟨⟨⟨⟨q1, q2⟩, q3⟩, q4⟩, q5⟩ := he
      simp only [VR] at hv
      obtain ⟨a, cap, h1, h2, h3, L, h4, h5⟩ := hv
      obtain ⟨k1, k2, k3⟩ := bindN_spec h (by rw [h4]; simp) ho
      refine ⟨k1, ?_, k3⟩
      simp only [VR]
      have q4 := of_ble q4
      have q5 := of_ble q5
      refine ⟨a, cap, by rw [of_nbeq q2]; exact h1, q5, by omega, L, by simp only [thr, k2, h4], ?_⟩
      rw [of_nbeq q1, of_nbeq q3]; exact h5
    · cases h
  · split at h
    · rename_i he
      have := beqV_eq _ _ _ he
      subst this
      split at h <;> (first | (cases h; refine ⟨.refl _, ?_, ho⟩; simp only [VR] at hv ; exact hv) | cases h)
    · cases h
theorem matchVs_spec : ∀ {l m : List AVal} {ρ ρ' : Ren} {vs : List Value}, matchVs ρ l m = some ρ' → VRs θ m vs → RenOK θ ρ → RenLe ρ ρ' ∧ VRs (thr θ ρ') l vs ∧ RenOK θ ρ'
  | [], [], ρ, ρ', vs, h, hv, ho => by
    simp only [matchVs] at h; cases h
    refine ⟨.refl _, ?_, ho⟩
    simpa only [VRs] using hv
  | [], _ :: _, _, _, _, h, _, _ => by simp [matchVs] at h
  | _ :: _, [], _, _, _, h, _, _ => by simp [matchVs] at h
  | a :: l, b :: m, ρ, ρ', vs, h, hv, ho => by
    simp only [matchVs] at h
    simp only [VRs] at hv
    obtain ⟨u, r, rfl, h1, h2⟩ := hv
    split at h
    · rename_i ρ1 hm
      obtain ⟨k1, k2, k3⟩ := matchV_spec hm h1 ho
      obtain ⟨g1, g2, g3⟩ := matchVs_spec h h2 k3
      exact ⟨k1.trans g1, VRs.cons (VR.mono g1.thr _ _ k2) g2, g3⟩
    · cases h
theorem matchArgs_spec : ∀ {l m : List AVal} {ρ ρ' : Ren} {vs : List Value}, matchArgs ρ l m = some ρ' → VRs θ m vs → RenOK θ ρ → RenLe ρ ρ' ∧ VRs (thr θ ρ') l vs ∧ RenOK θ ρ'
  | l, m, ρ, ρ', vs, h, hv, ho => by
    unfold matchArgs at h
    split at h
    · cases h
      refine ⟨.refl _, ?_, ho⟩
      simpa only [VRs] using hv
    · rename_i l1 x1 l2 y1
      simp only [VRs] at hv
      obtain ⟨u, r, rfl, h1, h2⟩ := hv
      simp only [VR] at h1
      obtain ⟨cs, rfl, h3⟩ := h1
      split at h
      · rename_i ρ1 hm
        obtain ⟨k1, k2, k3⟩ := matchVs_spec hm h3 ho
        obtain ⟨g1, g2, g3⟩ := matchArgs_spec h h2 k3
        exact ⟨k1.trans g1, VRs.cons (by simp only [VR]; exact ⟨cs, rfl, VRs.mono g1.thr _ _ k2⟩) g2, g3⟩
      · cases h
    · rename_i a1 x1 b1 y1 _
      simp only [VRs] at hv
      obtain ⟨u, r, rfl, h1, h2⟩ := hv
      split at h
      · rename_i ρ1 hm
        obtain ⟨k1, k2, k3⟩ := matchV_spec hm h1 ho
        obtain ⟨g1, g2, g3⟩ := matchArgs_spec h h2 k3
        exact ⟨k1.trans g1, VRs.cons (VR.mono g1.thr _ _ k2) g2, g3⟩
      · cases h
    · cases h
theorem matchCells_spec {t t' : Tr AVal} {c : Array Value} {sh N : Nat} (hc : CellsR θ t' c sh N) : ∀ (n i : Nat) {ρ ρ' : Ren}, matchCells ρ t t' n i = some ρ' → i + n ≤ N → RenOK θ ρ →
    RenLe ρ ρ' ∧ RenOK θ ρ' ∧ ∀ j, i ≤ j → j < i + n → ∃ a u, t.get j = some a ∧ c[sh + j]? = some u ∧ VR (thr θ ρ') a u
  | 0, i, ρ, ρ', h, _, ho => by
    simp only [matchCells] at h; cases h
    exact ⟨.refl _, ho, fun j h1 h2 => absurd h2 (by omega)⟩
  | n + 1, i, ρ, ρ', h, hN, ho => by
    simp only [matchCells] at h
    split at h
    · rename_i a b ha hb
      split at h
      · rename_i ρ1 hm
        obtain ⟨b', u, e1, e2, e3⟩ := hc i (by omega)
        rw [hb] at e1; cases e1
        obtain ⟨k1, k2, k3⟩ := matchV_spec hm e3 ho
        obtain ⟨g1, g2, g3⟩ := matchCells_spec hc n (i + 1) h (by omega) k3
        refine ⟨k1.trans g1, g2, fun j h1 h2 => ?_⟩
        by_cases e : j = i
        · subst e; exact ⟨a, u, ha, e2, VR.mono g1.thr _ _ k2⟩
        · exact g3 j (by omega) (by omega)
      · cases h
    · cases h
theorem matchBlks_spec {lo : Nat} (W : WR θ lo base s.heap w) : ∀ {l : List (Nat × ABlk)} {ρ ρ' : Ren}, matchBlks ρ s l = some ρ' → RenOK θ ρ →
    RenLe ρ ρ' ∧ RenOK θ ρ' ∧ ∀ b x, (b, x) ∈ l → ∃ L, thr θ ρ' b = some L ∧ BR (thr θ ρ') x L w.heap[L.cb]?
  | [], ρ, ρ', h, ho => by
    simp only [matchBlks] at h; cases h
    exact ⟨.refl _, ho, fun b x hx => by simp at hx⟩
  | (b, x) :: r, ρ, ρ', h, ho => by
    unfold matchBlks at h
    split at h
    · rename_i b' e n t hb
      split at h
      · rename_i e' n' t' hg
        split at h
        · rename_i hc
          rw [Bool.and_eq_true] at hc
          split at h
          · rename_i ρ1 hm
            have hne := ho _ _ hb
            cases hL : θ b' with
            | none => exact absurd hL hne
            | some L =>
              obtain ⟨c, c1, c2, c3, c4⟩ := W.blk _ _ _ hg hL
              have hn := of_ble hc.2
              obtain ⟨k1, k2, k3⟩ := matchCells_spec c4 n 0 hm (by omega) ho
              obtain ⟨g1, g2, g3⟩ := matchBlks_spec W h k2
              refine ⟨k1.trans g1, g2, fun b2 x2 hx => ?_⟩
              rcases List.mem_cons.1 hx with e2 | hx
              · cases e2
                refine ⟨L, by simp only [thr, g1 _ _ (k1 _ _ hb), hL], c, by rw [c1, of_nbeq hc.1], c2, by omega, fun i hi => ?_⟩
                obtain ⟨a, u, q1, q2, q3⟩ := k3 i (by omega) (by omega)
                exact ⟨a, u, q1, q2, VR.mono g1.thr _ _ q3⟩
              · exact g3 b2 x2 hx
          · cases h
        · cases h
      · cases h
    · cases h
theorem renGet_mem : ∀ {ρ : Ren} {b y : Nat}, renGet b ρ = some y → (b, y) ∈ ρ
  | [], _, _, h => by simp [renGet] at h
  | (c, z) :: r, b, y, h => by
    simp only [renGet] at h
    split at h
    · rename_i he; cases h; rw [of_nbeq he]; simp
    · exact List.mem_cons_of_mem _ (renGet_mem h)
theorem memoGetF_spec {lo : Nat} {f : FuncId} {args : List AVal} {args' : Array Value} (W : WR θ lo base s.heap w) (hA : VRs θ args args'.toList) : ∀ {l : List Memo}, memoGetF f args s l = some v → (∀ mm ∈ l, mm.OK C.P) →
    ∀ cs, ∃ w' fr' v', Steps C.P (lone (Frame.enter C.P f args' .normal) cs w) (lone fr' cs w') ∧ fr'.leaving C.P w' (.returned v') ∧ (∀ θ, VR θ v v') ∧ Below w.heap.size w w'
  | [], h, _ => by simp [memoGetF] at h
  | mm :: r, h, hm => by
    have next : memoGetF f args s r = some v → ∀ cs, ∃ w' fr' v', Steps C.P (lone (Frame.enter C.P f args' .normal) cs w) (lone fr' cs w') ∧ fr'.leaving C.P w' (.returned v') ∧ (∀ θ, VR θ v v') ∧ Below w.heap.size w w' :=
      fun h => memoGetF_spec W hA h fun m hm' => hm m (by simp [hm'])
    simp only [memoGetF] at h
    split at h
    · rename_i hf
      split at h
      · rename_i ρ hρ
        split at h
        · rename_i ρ1 hρ1
          split at h
          · rename_i hall
            cases h
            obtain ⟨a1, a2, a3⟩ := matchArgs_spec hρ hA (fun b y hb => by simp [renGet] at hb)
            obtain ⟨b1, b2, b3⟩ := matchBlks_spec W hρ1 a3
            intro cs
            obtain ⟨w', fr', v', q1, q2, _, q3, q4⟩ := hm mm (by simp) (thr θ ρ1) w args' b3 (fun b L hb => by
              obtain ⟨y, hy, hb⟩ := thr_some hb
              · refine ⟨W.lt _ _ hb, ?_⟩
                rw [List.all_eq_true] at hall
                have := hall _ (renGet_mem hy)
                rw [List.any_eq_true] at this
                obtain ⟨q, hq, he⟩ := this
                have he' : q.1 = b := of_nbeq he
                exact ⟨q.2, he' ▸ hq⟩) (VRs.mono b1.thr _ _ a2) cs
            rw [of_nbeq hf] at q1
            exact ⟨w', fr', v', q1, q2, q3, q4⟩
          · exact next h
        · exact next h
      · exact next h
    · exact next h

theorem WR.belowAll {lo : Nat} {h : Tr ABlk} (W : WR θ lo base h w) (B : Below w.heap.size w w') : WR θ lo base h w' where
  blk := fun b x L h1 h2 => by rw [B.block _ (W.lt _ _ h2)]; exact W.blk b x L h1 h2
  own := W.own
  inj := W.inj
  lt := fun b L h1 => Nat.lt_of_lt_of_le (W.lt b L h1) B.size
  dom := W.dom
  size := Nat.le_trans W.size B.size

theorem bigLF_succ {fuel lvl : Nat} {f : FuncId} {args : List AVal} : bigLF C fuel (lvl + 1) f args s = (match memoGetF f args s C.memo with
    | some v => some (some (v, s))
    | none => match C.forky.any (Nat.beq f) with
      | true => match enterFr C f args false none fun fr => exploreC C (bigLF C fuel lvl) f s.heap fuel 16 { cur := fr, callers := [], st := { s with log := [] } } with
        | some (v, s') => some (some (v, { heap := s'.heap, next := s'.next, log := s'.log ++ s.log }))
        | none => some none
      | false => none) := rfl
theorem bigLF_ok (hC : CfgOK C) (hmix : C.P.follows .mixedOrders = true) (hm : ∀ mm ∈ C.memo, mm.OK C.P) (fuel : Nat) : ∀ lvl, BigOK C (bigLF C fuel lvl) ∧ BigInv (bigLF C fuel lvl)
  | 0 => ⟨fun f args s v s' h => (by cases h), fun f args s v s' h0 h => (by cases h)⟩
  | lvl + 1 => by
    obtain ⟨ih1, ih2⟩ := bigLF_ok hC hmix hm fuel lvl
    constructor
    · intro f args s v s' h θ base w args' W hA cs
      rw [bigLF_succ] at h
      split at h
      · rename_i v1 hv1
        cases h
        obtain ⟨w', fr', v', q1, q2, q3, q4⟩ := memoGetF_spec W hA hv1 hm cs
        exact ⟨θ, w', fr', v', q1, q2, q3 θ, W.belowAll q4, Th.le_refl _, fun b x h1 h2 => ⟨h2, h1⟩, q4.mono W.size⟩
      · split at h
        · split at h
          · rename_i v1 s1 he
            cases h
            obtain ⟨fn, c, g1, g2, g3⟩ := enterFr_some he
            have R : MR C θ base (fun _ => none) (fun b x => θ b = none ∧ s.heap.get b = some x) cs
                ⟨{ fn := f, tmps := Tr.leaf.setL 0 args, nt := args.length + (fn.ntmps - args.length), todo := [.code c], defers := [], mode := .run, deferred := false, roundOf := none }, [], { s with log := [] }⟩ (Frame.enter C.P f args' .normal) cs w :=
              ⟨W, FrR.enter hC (dfd := false) g1 g2 hA, rfl, fun b x hx => ⟨hx.1, hx.2, rfl⟩⟩
            obtain ⟨θ', f', w', v', k1, k2, k3, k4, k5, k6, k7, k8⟩ := exploreC_sound hC hmix ih1 ih2 (fun b x hx => by rw [hx.2]; simp) _ _ _ _ _ _ _ _ _ g3 R
            refine ⟨θ', w', f', v', k1, k2, k4, k5, k6, fun b x h1 h2 => ⟨(k8 b x ⟨h1, h2⟩).2, (k8 b x ⟨h1, h2⟩).1⟩, k7⟩
          · cases h
        · cases h
    · intro f args s v s' h0 h hi
      rw [bigLF_succ] at h
      split at h
      · cases h; exact hi
      · split at h
        · split at h
          · rename_i v1 s1 he
            cases h
            obtain ⟨fr', he⟩ := enterFr_k he
            have := exploreC_inv ih2 _ s.heap _ _ _ he (Inv.start s)
            exact hi.join this
          · cases h
        · cases h

theorem blksTr_get : ∀ (l : List (Nat × ABlk)) (t : Tr ABlk) (b : Nat), ((∃ x, (b, x) ∈ l ∧ (blksTr l t).get b = some x)) ∨ ((∀ x, (b, x) ∉ l) ∧ (blksTr l t).get b = t.get b)
  | [], t, b => .inr ⟨by simp, rfl⟩
  | (c, y) :: r, t, b => by
    have e : blksTr ((c, y) :: r) t = blksTr r (t.set c y) := by simp only [blksTr]; rw [Tr.setK_eq]
    rw [e]
    rcases blksTr_get r (t.set c y) b with ⟨x, h1, h2⟩ | ⟨h1, h2⟩
    · exact .inl ⟨x, by simp [h1], h2⟩
    · rw [Tr.get_set] at h2
      by_cases hb : b = c
      · rw [if_pos hb] at h2
        exact .inl ⟨y, by simp [hb], h2⟩
      · rw [if_neg hb] at h2
        refine .inr ⟨fun x hx => ?_, h2⟩
        rcases List.mem_cons.1 hx with he | hx
        · cases he; exact hb rfl
        · exact h1 x hx
/-- A run of the fast machine tells what the call comes to. -/
theorem memo_of_run (hC : CfgOK C) (hmix : C.P.follows .mixedOrders = true) (hm : ∀ mm ∈ C.memo, mm.OK C.P) {lvl fuel : Nat} {f : FuncId} {args : List AVal} {blks : List (Nat × ABlk)} {r : AVal} {n : Nat}
    (h : callRunF C lvl fuel f args blks = some r) (hr : freeV n r = true) (hlo : blks.all (fun p => Nat.blt p.1 C.lo) = true) : Memo.OK C.P ⟨f, args, blks, r⟩ := by
  intro θ w args' hb hθ hA cs
  have hlt : ∀ b x, (b, x) ∈ blks → b < C.lo := by
    intro b x hx
    rw [List.all_eq_true] at hlo
    exact of_blt (hlo _ hx)
  have hget : ∀ b x, (blksTr blks .leaf).get b = some x → (b, x) ∈ blks := by
    intro b x hx
    rcases blksTr_get blks .leaf b with ⟨y, h1, h2⟩ | ⟨h1, h2⟩
    · rw [h2] at hx; cases hx; exact h1
    · rw [h2] at hx; cases hx
  have W : WR θ C.lo w.heap.size (blksTr blks .leaf) w := by
    refine ⟨?_, ?_, ?_, fun b L hL => (hθ b L hL).1, ?_, Nat.le_refl _⟩
    · intro b x L h1 h2
      obtain ⟨L', h3, h4⟩ := hb b x (hget b x h1)
      rw [h2] at h3; cases h3; exact h4
    · intro b x L h0 h1 _ _
      have := hlt b x (hget b x h1); omega
    · intro b x L b' x' L' h0 h1 _ _ _ _ _ _
      have := hlt b x (hget b x h1); omega
    · intro b L hL
      obtain ⟨_, x, hx⟩ := hθ b L hL
      rcases blksTr_get blks .leaf b with ⟨y, h1, h2⟩ | ⟨h1, h2⟩
      · rw [h2]; simp
      · exact absurd hx (h1 x)
  obtain ⟨ih1, ih2⟩ := bigLF_ok hC hmix hm fuel lvl
  unfold callRunF at h
  split at h
  · rename_i v1 s1 he
    cases h
    obtain ⟨fn, c, g1, g2, g3⟩ := enterFr_some he
    have R : MR C θ w.heap.size (fun _ => none) (fun _ _ => False) cs
        ⟨{ fn := f, tmps := Tr.leaf.setL 0 args, nt := args.length + (fn.ntmps - args.length), todo := [.code c], defers := [], mode := .run, deferred := false, roundOf := none }, [], { heap := blksTr blks .leaf, next := C.lo, log := [] }⟩ (Frame.enter C.P f args' .normal) cs w :=
      ⟨W, FrR.enter hC (dfd := false) g1 g2 hA, rfl, fun b x hx => hx.elim⟩
    obtain ⟨θ', f', w', v', k1, k2, k3, k4, k5, k6, k7, k8⟩ := exploreC_sound hC hmix ih1 ih2 (fun b x hx => hx.elim) _ _ _ _ _ _ _ _ _ g3 R
    exact ⟨w', f', v', k1, k2, k3, freeV_any n _ _ hr k4, k7⟩
  · cases h
/-- as a contract -/
theorem calls_of_memo {P : Program} {f : FuncId} {r : AVal} (h : Memo.OK P ⟨f, [], [], r⟩) (w : World) : Calls P f #[] w fun e w' => (∃ v', e = .returned v' ∧ ∀ θ, VR θ r v') ∧ Below w.heap.size w w' := by
  intro cs
  obtain ⟨w', fr', v', h1, h2, h3, h4, h5⟩ := h (fun _ => none) w #[] (fun b x hx => by simp at hx) (fun b L hb => by cases hb) VRs.nil cs
  exact ⟨.returned v', w', fr', ⟨⟨v', rfl, h4⟩, h5⟩, h1, h3, h2⟩
theorem calls_bool {P : Program} {f : FuncId} {b : Bool} (h : Memo.OK P ⟨f, [], [], .bool b⟩) (w : World) : Calls P f #[] w fun e w' => e = .returned (.bool b) ∧ Below w.heap.size w w' := by
  intro cs
  obtain ⟨w', fr', v', h1, h2, h3, h4, h5⟩ := h (fun _ => none) w #[] (fun b x hx => by simp at hx) (fun b L hb => by cases hb) VRs.nil cs
  have := h4 fun _ => none
  simp only [VR] at this
  subst this
  exact ⟨.returned (.bool b), w', fr', ⟨rfl, h5⟩, h1, h3, h2⟩
end
end Go.AM

namespace Go.AM
theorem evens_get {α : Type} : ∀ (l : List α) (i : Nat), (Tr.evens l)[i]? = l[2 * i]?
  | [], i => by simp [Tr.evens]
  | [x], i => by
    cases i with
    | zero => rfl
    | succ i => simp [Tr.evens]
  | x :: y :: r, i => by
    cases i with
    | zero => rfl
    | succ i =>
      rw [show 2 * (i + 1) = 2 * i + 1 + 1 from by omega]
      simp only [Tr.evens, List.getElem?_cons_succ]
      exact evens_get r i
theorem odds_get {α : Type} : ∀ (l : List α) (i : Nat), (Tr.odds l)[i]? = l[2 * i + 1]?
  | [], i => by simp [Tr.odds]
  | [x], i => by simp [Tr.odds]
  | x :: y :: r, i => by
    cases i with
    | zero => rfl
    | succ i =>
      rw [show 2 * (i + 1) + 1 = 2 * i + 1 + 1 + 1 from by omega]
      simp only [Tr.odds, List.getElem?_cons_succ]
      exact odds_get r i
theorem build_get {α : Type} : ∀ (f : Nat) (l : List α) (i : Nat) (x : α), (Tr.build f l).get i = some x → l[i]? = some x
  | 0, l, i, x, h => by simp [Tr.build, Tr.get_leaf] at h
  | f + 1, [], i, x, h => by simp [Tr.build, Tr.get_leaf] at h
  | f + 1, y :: r, i, x, h => by
    simp only [Tr.build, Tr.get_node] at h
    by_cases h0 : i = 0
    · subst h0; simpa using h
    · rw [if_neg h0] at h
      by_cases h1 : i % 2 = 1
      · rw [if_pos h1] at h
        have := build_get f _ _ _ h
        rw [evens_get] at this
        obtain ⟨j, rfl⟩ : ∃ j, i = j + 1 := ⟨i - 1, by omega⟩
        rw [List.getElem?_cons_succ, ← this]
        congr 1; omega
      · rw [if_neg h1] at h
        have := build_get f _ _ _ h
        rw [odds_get] at this
        obtain ⟨j, rfl⟩ : ∃ j, i = j + 1 := ⟨i - 1, by omega⟩
        rw [List.getElem?_cons_succ, ← this]
        congr 1; omega
/-- the tables are the program's -/
theorem cfg_ok {P : Program} {f g lo : Nat} {memo : List Memo} {forky plain : List Nat} {canon : List (FuncId × List Nat)}
    (hn : (P.funcs.toList.all fun fn => !(fn.name == "runtime.NumGoroutine")) = true)
    (hp : (plain.all fun t => !(P.stoodInHeld t) && !(P.eqGuardType P.depth t)) = true) :
    CfgOK { P := P, ty := Tr.build f P.types.toList, fns := Tr.build g P.funcs.toList, lo := lo, memo := memo, forky := forky, plain := plain, canon := canon } where
  ty := by
    intro t i h
    have := build_get _ _ _ _ h
    have e : P.types[t]? = some i := by simpa using this
    have hlt : t < P.types.size := by
      rcases Nat.lt_or_ge t P.types.size with hh | hh
      · exact hh
      · rw [Array.getElem?_eq_none hh] at e; cases e
    show (if t < P.types.size then P.types[t]? else _) = some i
    rw [if_pos hlt]
    exact e
  fns := by
    intro t i h
    have := build_get _ _ _ _ h
    simpa using this
  names := by
    intro t fn h _
    have h1 := build_get _ _ _ _ h
    rw [List.all_eq_true] at hn
    have := hn fn (List.mem_of_getElem? h1)
    simpa using this
  plain := by
    intro t h
    rw [List.any_eq_true] at h
    obtain ⟨u, hu, he⟩ := h
    have he := of_nbeq he
    subst he
    rw [List.all_eq_true] at hp
    have := hp _ hu
    simpa using this
end Go.AM
