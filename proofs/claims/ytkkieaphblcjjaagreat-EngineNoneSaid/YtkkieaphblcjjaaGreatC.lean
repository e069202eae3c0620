/- The other operations. Without conditions. -/
import Derived.Test.YtkkieaphblcjjaaGreatB
import Derived.Lib.AppendZeros
import Derived.Deep.Upon
import Derived.Deep.DeepAppendWide
import Derived.Lib.SliceRun
import Derived.RangeFuncRecord
import Derived.Maps.RangeRun

namespace Go.AM
open Go.RowKit
section
variable {C : Cfg} {θ : Th} {base : Nat} {s s' : St} {w : World} {tm : Tr AVal} {nt : Nat} {ts : Array Value} {v : AVal}

theorem storeCells_some {β : Type} {b off : Nat} {vs : List AVal} {k : St → Option β} {r : β} (h : AM.storeCells C s b off vs none k = some r) :
    (vs = [] ∧ k s = some r) ∨ ∃ e n t, s.heap.get b = some (.row e n t) ∧ C.lo ≤ b ∧ off + vs.length ≤ n ∧ vs.all AVal.flat = true ∧ k (s.set b (.row e n (t.setL off vs))) = some r := by
  unfold AM.storeCells at h
  split at h
  · exact .inl ⟨rfl, h⟩
  · split at h
    · cases h
    · rename_i hlo
      obtain ⟨e, n, t, h1, h2⟩ := getRow_some h
      split at h2
      · rename_i hc
        have hc' := (Bool.and_eq_true _ _).mp hc
        rw [Tr.setList_eq, put_eq] at h2
        exact .inr ⟨e, n, t, h1, of_ble hlo, of_ble hc'.1, hc'.2, h2⟩
      · cases h2

theorem all_one {l : List AVal} {us : List Value} (h : VRs θ l us) (hf : l.all AVal.flat = true) : ∀ u ∈ us, u.oneCell' = true := by
  intro u hu
  obtain ⟨i, hi, rfl⟩ := List.mem_iff_getElem.1 hu
  have hl := h.length
  obtain ⟨v', h1, h2⟩ := h.get i l[i] (List.getElem?_eq_getElem (by omega))
  rw [List.getElem?_eq_getElem hi] at h1
  cases h1
  exact flat_one h2 (List.all_eq_true.1 hf _ (List.getElem_mem _))

theorem VRs.toArray {l : List AVal} {us : List Value} (h : VRs θ l us) : VRs θ l us.toArray.toList := by simpa using h

theorem opStore_sound (hC : CfgOK C) (W : WR θ C.lo base s.heap w) (T : TR θ tm nt ts) {t : TypeId} {a x : Operand} (h : opStore C t (eval tm a) (eval tm x) s = some (.val v s')) :
    OkV C.P θ C.lo base s.heap w (do Instr.storeAt t (ρ ts a) (ρ ts x); pure .skip) v s'.heap := by
  unfold opStore at h
  split at h
  · rename_i b off xv n ha hx hn
    split at h
    · rename_i hsz
      have hsz := of_nbeq hsz
      have hxv := (eval_sound T hx).cells
      have hav := eval_sound T ha
      simp only [VR] at hav
      obtain ⟨L, g1, g2⟩ := hav
      have hlen : (ρ ts x).cells.size = n := by have := hxv.length; simp at this; omega
      rcases storeCells_some h with ⟨h1, h2⟩ | ⟨e, m, t', h1, h2, h3, h4, h5⟩
      · cases h2
        have h0 : (ρ ts x).cells = #[] := by
          have := hxv.length
          rw [h1] at this
          apply Array.eq_empty_of_size_eq_zero
          simpa using this.symm
        refine ⟨θ, w, .skip, ?_, .inr ⟨rfl, rfl⟩, W, Ext.refl _ _ _ _⟩
        have hn0 : n = 0 := by rw [← hlen, h0]; rfl
        subst hn0
        simp [Instr.storeAt, Instr.sureAddr, g2, storeVar, h0, run_sizeOf hC hn, Go.storeCells]
      · cases h5
        obtain ⟨k1, k2, k3, k4⟩ := storeCells_sound W h2 h1 g1 h3 hxv
        have hrun := run_storeCells_cells (P := C.P) L.cb (off + L.sh) (ρ ts x).cells.toList 0 w (by simpa using k3) (by simpa using k4) (all_one hxv h4)
        refine ⟨θ, _, .skip, ?_, .inr ⟨rfl, rfl⟩, k1, ⟨Th.le_refl _, set_pend (by rw [g1]; simp), k2⟩⟩
        simp only [Nat.add_zero] at hrun
        simp [Instr.storeAt, Instr.sureAddr, g2, storeVar, hlen, run_sizeOf hC hn, hrun]
    · cases h
  · cases h

/-- the same block under another number: the elder one is not read any more -/
theorem WR.rehome {lo : Nat} {h : Tr ABlk} {w w' : World} (W : WR θ lo base h w) {b b' : Nat} {x x' : ABlk} {L L' : Loc} (hlo : lo ≤ b) (hb : h.get b = some x) (hx : x ≠ .dead) (hθ : θ b = some L) (hb' : h.get b' = none)
    (hcb : L'.cb = L.cb) (hk : ∀ k, k ≠ L.cb → w'.heap[k]? = w.heap[k]?) (hs : w'.heap.size = w.heap.size) (hB : BR (θ.upd b' L') x' L' w'.heap[L.cb]?) :
    WR (θ.upd b' L') lo base ((h.set b .dead).set b' x') w' := by
  have hne : b ≠ b' := by rintro rfl; rw [hb] at hb'; cases hb'
  have hθ' := W.none_of_new hb'
  have hg : ∀ c y, ((h.set b .dead).set b' x').get c = some y → (c = b' ∧ y = x') ∨ (c = b ∧ y = .dead) ∨ (c ≠ b ∧ c ≠ b' ∧ h.get c = some y) := by
    intro c y hc
    rw [Tr.get_set] at hc
    split at hc
    · rename_i e; cases hc; exact .inl ⟨e, rfl⟩
    · rename_i e
      rw [Tr.get_set] at hc
      split at hc
      · rename_i e2; cases hc; exact .inr (.inl ⟨e2, rfl⟩)
      · rename_i e2; exact .inr (.inr ⟨e2, e, hc⟩)
  have hup : ∀ c M, c ≠ b' → (θ.upd b' L') c = some M → θ c = some M := fun c M h1 h2 => by simpa [Th.upd, h1] using h2
  constructor
  · intro c y M h1 h2
    rcases hg c y h1 with ⟨rfl, rfl⟩ | ⟨rfl, rfl⟩ | ⟨g1, g2, g3⟩
    · rw [Th.upd_self] at h2; cases h2; rw [hcb]; exact hB
    · trivial
    · have h3 := hup _ _ g2 h2
      by_cases hd : y = .dead
      · subst hd; trivial
      · have hnc : M.cb ≠ L.cb := fun e => g1 (W.inj b x L c y M hlo hb hθ hx g3 h3 hd e.symm).symm
        rw [hk _ hnc]
        exact (W.blk _ _ _ g3 h3).mono (Th.le_upd hθ')
  · intro c y M h0 h1 h2 h3
    rcases hg c y h1 with ⟨rfl, rfl⟩ | ⟨rfl, rfl⟩ | ⟨g1, g2, g3⟩
    · rw [Th.upd_self] at h2; cases h2; rw [hcb]; exact W.own _ _ _ hlo hb hθ hx
    · exact absurd rfl h3
    · exact W.own _ _ _ h0 g3 (hup _ _ g2 h2) h3
  · intro c y M c' y' M' h0 h1 h2 h3 h4 h5 h6 h7
    rcases hg c y h1 with ⟨rfl, rfl⟩ | ⟨rfl, rfl⟩ | ⟨g1, g2, g3⟩
    · rcases hg c' y' h4 with ⟨rfl, rfl⟩ | ⟨rfl, rfl⟩ | ⟨k1, k2, k3⟩
      · rfl
      · exact absurd rfl h6
      · rw [Th.upd_self] at h2; cases h2
        rw [hcb] at h7
        exact absurd (W.inj b x L c' y' M' hlo hb hθ hx k3 (hup _ _ k2 h5) h6 h7).symm k1
    · exact absurd rfl h3
    · rcases hg c' y' h4 with ⟨rfl, rfl⟩ | ⟨rfl, rfl⟩ | ⟨k1, k2, k3⟩
      · rw [Th.upd_self] at h5; cases h5
        rw [hcb] at h7
        exact absurd (W.inj c y M b x L h0 g3 (hup _ _ g2 h2) h3 hb hθ hx h7) g1
      · exact absurd rfl h6
      · exact W.inj _ _ _ _ _ _ h0 g3 (hup _ _ g2 h2) h3 k3 (hup _ _ k2 h5) h6 h7
  · intro c M h1
    rw [hs]
    by_cases e : c = b'
    · subst e; rw [Th.upd_self] at h1; cases h1; rw [hcb]; exact W.lt _ _ hθ
    · exact W.lt _ _ (hup _ _ e h1)
  · intro c M h1
    rw [Tr.get_set]
    split
    · simp
    · rename_i e
      rw [Tr.get_set]
      split
      · simp
      · exact W.dom _ _ (hup _ _ e h1)
  · rw [hs]; exact W.size

theorem bytesOk_sound (hC : CfgOK C) {e : TypeId} {c : Nat} {i : TypeInfo} (hi : C.P.info? e = some i) (h : bytesOk C e c = true) : i.bytes * c ≤ 16777216 ∧ c * i.size ≤ 16777216 ∧ c ≤ 16777216 := by
  unfold bytesOk at h
  split at h
  · rename_i j hj
    have := hC.ty _ _ hj
    rw [hi] at this; cases this
    have h5 := (Bool.and_eq_true _ _).mp h
    have h6 := (Bool.and_eq_true _ _).mp h5.1
    exact ⟨of_ble h6.1, of_ble h6.2, of_ble h5.2⟩
  · cases h
theorem zeroOk_sound (hC : CfgOK C) {e : TypeId} {i : TypeInfo} (hi : C.P.info? e = some i) (h : zeroOk C e i.size = true) : ∃ z, i.zero = some z ∧ z.cells.size = i.size := by
  unfold zeroOk at h
  split at h
  · rename_i z hz
    obtain ⟨i', zc, q1, q2, q3⟩ := zero_sound (θ := fun _ => none) hC hz
    rw [hi] at q1; cases q1
    have := q3.cells.length
    have h := of_nbeq h
    exact ⟨zc, q2, by simp at this; omega⟩
  · cases h

theorem cells_grown {z : Value} {size n cap : Nat} (hz : z.cells.size = size) (us : List Value) (hu : us.length = n * size) (hc : n ≤ cap) : (us.toArray ++ Builtin.zeroCells z.cells (cap - n)).size = cap * size := by
  simp [Builtin.zeroCells, hz, hu]
  rw [← Nat.add_mul]
  congr 1
  omega

/-- behind the row's own cells stand others: it reads as it did -/
theorem BR_row_more {l : List AVal} {us : List Value} {more : Array Value} {e : TypeId} {cb csz : Nat} {t : Tr AVal} (hv : VRs θ l us) (ht : ∀ i, i < l.length → t.get i = l[i]?) (hs : (us.toArray ++ more).size = csz) :
    BR θ (.row e l.length t) ⟨cb, 0, csz⟩ (some (.cells (us.toArray ++ more) e (0, 0))) := by
  have hlen := hv.length
  refine ⟨_, rfl, hs, by simp; omega, fun i hi => ?_⟩
  obtain ⟨u, h1, h2⟩ := hv.get i _ (List.getElem?_eq_getElem hi)
  refine ⟨l[i], u, by rw [ht i hi]; exact List.getElem?_eq_getElem hi, ?_, h2⟩
  have : i < us.toArray.size := by simp; omega
  simp only [Nat.zero_add]
  rw [Array.getElem?_append_left this]
  simpa using h1
end
end Go.AM

namespace Go.AM
open Go.RowKit
section
variable {C : Cfg} {θ : Th} {base : Nat} {s s' : St} {w : World} {tm : Tr AVal} {nt : Nat} {ts : Array Value} {v : AVal}

theorem grownCap_ge (w : World) (need old : Nat) (e : TypeId) : need ≤ grownCap w need old e := by unfold grownCap Question.cut; simp

theorem fits48 {need old b : Nat} (h : old < need) (hb : b * need ≤ 16777216) : Builtin.nextslicecap need old * b ≤ 281474976710656 := by
  have h1 : Builtin.nextslicecap need old * b ≤ (need + need / 4 + 192) * b := Nat.mul_le_mul_right _ (nextslicecap_le_wide h)
  have h2 : (need + need / 4 + 192) * b ≤ (2 * need + 192) * b := Nat.mul_le_mul_right _ (by omega)
  have h3 : (2 * need + 192) * b = 2 * (b * need) + 192 * b := by rw [Nat.add_mul, Nat.mul_assoc, Nat.mul_comm need b]
  have h4 : b * 1 ≤ b * need := Nat.mul_le_mul_left _ (by omega)
  omega

/-- a new row behind a draw -/
theorem grow_ok {lo : Nat} {h : Tr ABlk} (W : WR θ lo base h w) {b : Nat} {x : ABlk} (hb : h.get b = none) {o : Obj} {csz : Nat}
    (hB : ∀ θ' : Th, θ.le θ' → BR θ' x ⟨w.heap.size, 0, csz⟩ (some o)) :
    WR (θ.upd b ⟨w.heap.size, 0, csz⟩) lo base (h.set b x) (w.drew.alloc o) ∧ Ext θ (θ.upd b ⟨w.heap.size, 0, csz⟩) base h (h.set b x) w (w.drew.alloc o) := by
  have hθ := W.none_of_new hb
  refine ⟨(W.drew.pend hθ x).made hθ (by rw [Tr.get_set, if_pos rfl]) o csz (hB _ (Th.le_upd hθ)), Th.le_upd hθ, ?_, ((Below.refl _ _).drew).alloc W.size _⟩
  intro c z h3 h4
  have hne : c ≠ b := by rintro rfl; rw [hb] at h4; cases h4
  rw [Tr.get_set, if_neg hne]
  exact ⟨h4, by unfold Th.upd; rw [if_neg hne]; exact h3⟩

theorem set_dead_pend {h : Tr ABlk} {b b' : Nat} {x' : ABlk} {L' : Loc} (hb : θ b ≠ none) (hb' : h.get b' = none) : ∀ c y, θ c = none → h.get c = some y → ((h.set b .dead).set b' x').get c = some y ∧ (θ.upd b' L') c = none := by
  intro c y h1 h2
  have n1 : c ≠ b := by rintro rfl; exact hb h1
  have n2 : c ≠ b' := by rintro rfl; rw [hb'] at h2; cases h2
  rw [Tr.get_set, if_neg n2, Tr.get_set, if_neg n1]
  exact ⟨h2, by unfold Th.upd; rw [if_neg n2]; exact h1⟩

theorem cellsAt_get {t : Tr AVal} : ∀ {m off : Nat} {old : List AVal}, cellsAt t off m = some old → old.length = m ∧ ∀ j, j < m → old[j]? = t.get (off + j)
  | 0, off, old, h => by unfold cellsAt at h; cases h; simp
  | m + 1, off, old, h => by
    unfold cellsAt at h
    split at h
    · rename_i a ha
      split at h
      · rename_i l hl
        cases h
        obtain ⟨r1, r2⟩ := cellsAt_get hl
        refine ⟨by simp [r1], fun j hj => ?_⟩
        cases j with
        | zero => simp [ha]
        | succ j =>
          simp only [List.getElem?_cons_succ]
          rw [r2 j (by omega)]
          congr 1; omega
      · cases h
    · cases h

theorem cellsAt_total {t : Tr AVal} {c : Array Value} {sh n : Nat} (hc : CellsR θ t c sh n) : ∀ (m off : Nat), off + m ≤ n → ∃ l, cellsAt t off m = some l
  | 0, off, _ => ⟨[], by unfold cellsAt; rfl⟩
  | m + 1, off, h => by
    obtain ⟨a, v, h1, _, _⟩ := hc off (by omega)
    obtain ⟨l, h2⟩ := cellsAt_total hc m (off + 1) (by omega)
    exact ⟨a :: l, by unfold cellsAt; simp only [h1, Nat.succ_eq_add_one, h2]⟩

theorem appendVs_sound (hC : CfgOK C) (W : WR θ C.lo base s.heap w) {t tx ty e : TypeId} {i : TypeInfo} (ht : C.P.underlying t = some (.slice e)) (hi : C.P.info? e = some i) {x : AVal} {x' y' : Value} {n : Nat} {vs : List AVal} {us : List Value}
    (hx : VR θ x x') (hs : Src C.P i.size tx y' n us w) (hv : VRs θ vs us) (hn : 0 < n) (h : appendVs C e i.size s x n vs = some (.val v s')) :
    OkV C.P θ C.lo base s.heap w (do pure (.value (← Builtin.append_ #[t, tx] ty #[x', y']))) v s'.heap := by
  have hul := hs.newsLen
  have hvl : vs.length = n * i.size := by rw [hv.length]; exact hul
  unfold appendVs at h
  split at h
  · -- onto nil
    split at h
    · rename_i hc
      have hc' := (Bool.and_eq_true _ _).mp hc
      obtain ⟨hb1, hb2, hb3⟩ := bytesOk_sound hC hi hc'.1
      obtain ⟨z, hz, hzs⟩ := zeroOk_sound hC hi hc'.2
      obtain ⟨h1, h2, h3⟩ := newRow_some h
      cases h3
      simp only [VR] at hx
      subst hx
      have hrun := run_append_grow_src (P := C.P) w t tx ty e i z ht hi hz none 0 0 [] (by simp [Builtin.firstCells]) y' n us hs (by omega) (by omega) (fits48 (by omega) (by rw [Nat.zero_add]; exact hb1))
      simp only [Nat.zero_add, List.nil_append] at hrun
      have hcap := grownCap_ge w n 0 e
      have hsz := cells_grown hzs us hul hcap
      obtain ⟨k1, k2⟩ := grow_ok W h1 (x := .row e vs.length (Tr.leaf.setL 0 vs)) (o := .cells (us.toArray ++ Builtin.zeroCells z.cells (grownCap w n 0 e - n)) e) (csz := grownCap w n 0 e * i.size)
        (fun θ' hle => BR_row_more (VRs.mono hle _ _ hv) (fun j hj => by rw [Tr.get_setL, if_pos (by omega)]; simp) hsz)
      refine ⟨_, _, .value (.slice (some ⟨w.heap.size, 0, none⟩) n (grownCap w n 0 e)), by rw [Sem.run_bind, hrun]; rfl, .inl ⟨_, rfl, ?_⟩, k1, k2⟩
      simp only [VR]
      exact ⟨_, _, rfl, Nat.le_refl _, hcap, _, Th.upd_self _ _ _, .inr ⟨by simp, by simp⟩⟩
    · cases h
  · rename_i b off len cp es
    split at h
    · cases h
    · rename_i hc
      have hc1 : ((Nat.beq es i.size = true ∧ Nat.ble C.lo b = true) ∧ bytesOk C e (len + n) = true) ∧ zeroOk C e i.size = true := by simpa using hc
      have hes := of_nbeq hc1.1.1.1
      subst hes
      have hlo := of_ble hc1.1.1.2
      obtain ⟨hb1, hb2, hb3⟩ := bytesOk_sound hC hi hc1.1.2
      obtain ⟨z, hz, hzs⟩ := zeroOk_sound hC hi hc1.2
      simp only [VR] at hx
      obtain ⟨a0, cap, rfl, hl1, hl2, hL⟩ := hx
      split at h
      · -- within what is known of the capacity
        rename_i hle
        have hle := of_ble hle
        obtain ⟨L, g1, hL | ⟨rfl, g3⟩⟩ := hL
        · omega
        rcases storeCells_some h with ⟨q1, q2⟩ | ⟨e1, m, t', q1, q2, q3, q4, q5⟩
        · have hus : us = [] := by
            have := hv.length; rw [q1] at this; exact List.eq_nil_of_length_eq_zero this.symm
          cases q2
          subst hus
          have hrun := run_append_room_src (P := C.P) w t tx ty e i ht hi L.cb (off + L.sh) len cap y' n [] hs (by omega) (by simp) (by simp)
          refine ⟨θ, w, .value (.slice (some ⟨L.cb, off + L.sh, none⟩) (len + n) cap), by rw [Sem.run_bind, hrun]; rfl, .inl ⟨_, rfl, ?_⟩, W, Ext.refl _ _ _ _⟩
          simp only [VR]
          exact ⟨_, _, rfl, hle, hl2, L, g1, .inr ⟨rfl, g3⟩⟩
        · cases q5
          obtain ⟨k1, k2, k3, k4⟩ := storeCells_sound W hlo q1 g1 q3 hv
          have hadd : off + len * i.size + L.sh = off + L.sh + len * i.size := by omega
          rw [hadd] at k1 k2 k3 k4
          have hrun := run_append_room_src (P := C.P) w t tx ty e i ht hi L.cb (off + L.sh) len cap y' n us hs (by omega) k3 k4
          refine ⟨θ, _, .value (.slice (some ⟨L.cb, off + L.sh, none⟩) (len + n) cap), by rw [Sem.run_bind, hrun]; rfl, .inl ⟨_, rfl, ?_⟩, k1, Th.le_refl _, set_pend (by rw [g1]; simp), k2⟩
          simp only [VR]
          exact ⟨_, _, rfl, hle, hl2, L, g1, .inr ⟨rfl, g3⟩⟩
      · -- what is known of the capacity does not reach
        rename_i hnle
        obtain ⟨e', k, tb, hb, h2⟩ := getRow_some h
        replace h := h2
        clear h2
        split at h
        · cases h
        · rename_i hc2
          have hc3 : Nat.beq e' e = true ∧ Nat.ble (off + len * i.size) k = true := by simpa using hc2
          have he := of_nbeq hc3.1
          subst he
          have hk := of_ble hc3.2
          -- the new row: both ways of writing it down
          obtain ⟨b', T', hnew, hs', hv', hT⟩ : ∃ b' T', s.heap.get b' = none ∧ s'.heap = (s.heap.set b .dead).set b' (.row e' (len * i.size + vs.length) T') ∧ v = .slice b' 0 (len + n) (len + n) i.size ∧
              (∀ j, j < len * i.size + vs.length → T'.get j = if j < len * i.size then tb.get (off + j) else vs[j - len * i.size]?) := by
            split at h
            · rename_i hw
              have hw' := (Bool.and_eq_true _ _).mp hw
              have h0 := of_nbeq hw'.1
              have h1 := of_nbeq hw'.2
              subst h0
              rw [put_eq, Tr.setList_eq, strictN_eq] at h
              obtain ⟨q1, q2, q3⟩ := newBlk_some h
              cases q3
              have hq : s.heap.get s.next = none := by
                have : (s.heap.set b .dead).get s.next = none := q1
                rw [Tr.get_set] at this
                split at this
                · cases this
                · exact this
              refine ⟨s.next, _, hq, by rw [← h1]; rfl, rfl, fun j hj => ?_⟩
              rw [Tr.get_setL]
              by_cases hj2 : j < len * i.size
              · rw [if_neg (by omega), if_pos hj2, Nat.zero_add]
              · rw [if_pos (by omega), if_neg hj2, h1]
            · split at h
              · rename_i old hold
                rw [put_eq] at h
                obtain ⟨q1, q2, q3⟩ := newRow_some h
                cases q3
                have hq : s.heap.get s.next = none := by
                  have : (s.heap.set b .dead).get s.next = none := q1
                  rw [Tr.get_set] at this
                  split at this
                  · cases this
                  · exact this
                have hol : old.length = len * i.size ∧ ∀ j, j < len * i.size → old[j]? = tb.get (off + j) := by
                  exact cellsAt_get hold
                refine ⟨s.next, _, hq, by rw [List.length_append, hol.1]; rfl, rfl, fun j hj => ?_⟩
                rw [Tr.get_setL, if_pos (by rw [List.length_append, hol.1]; omega), Nat.sub_zero]
                by_cases hj2 : j < len * i.size
                · rw [List.getElem?_append_left (by rw [hol.1]; exact hj2), if_pos hj2]
                  exact hol.2 j hj2
                · rw [List.getElem?_append_right (by rw [hol.1]; omega), if_neg hj2, hol.1]
              · cases h
          subst hv'
          have hsplit : (len + n) * i.size = len * i.size + n * i.size := Nat.add_mul ..
          by_cases hroom : len + n ≤ cap
          · -- the machine has room: the block goes on under another number
            obtain ⟨L, g1, hL | ⟨rfl, g3⟩⟩ := hL
            · omega
            obtain ⟨c, q1, q2, q3, q4⟩ := W.blk _ _ _ hb g1
            have hcap : (len + n) * i.size ≤ cap * i.size := Nat.mul_le_mul_right _ hroom
            have hfit : off + L.sh + len * i.size + us.length ≤ c.size := by rw [hul]; omega
            obtain ⟨r1, r2, r3, r4, r5, r6⟩ := setCells_heap L.cb us (off + L.sh + len * i.size) w c e' (0, 0) q1 hfit
            have hrun := run_append_room_src (P := C.P) w t tx ty e' i ht hi L.cb (off + L.sh) len cap y' n us hs hroom
              (fun j hj => by simp only [World.cell?, q1]; simp; omega) (fun j hj => by simp [World.frozen?, q1])
            have hcb := W.own _ _ _ hlo hb g1 (by simp)
            have hWR := W.rehome (b' := b') (x' := .row e' (len * i.size + vs.length) T') (L' := ⟨L.cb, off + L.sh, L.csz⟩) hlo hb (by simp) g1 hnew rfl r2 r3 (by
              rw [r1]
              have hf := foldl_fill (off + L.sh + len * i.size) us 0 c (by omega)
              rw [Nat.add_zero] at hf
              generalize (us.zipIdx 0).foldl (fun cs (x : Value × Nat) => cs.setIfInBounds (off + L.sh + len * i.size + x.2) x.1) c = c' at hf
              have hcs : c'.size = c.size := by
                have := congrArg List.length hf
                simp at this
                omega
              refine ⟨c', rfl, by rw [hcs, q2], by simp only; omega, fun j hj => ?_⟩
              rw [hT j hj]
              have hup : θ.le (θ.upd b' ⟨L.cb, off + L.sh, L.csz⟩) := Th.le_upd (W.none_of_new hnew)
              by_cases hj2 : j < len * i.size
              · rw [if_pos hj2]
                obtain ⟨a, u, m1, m2, m3⟩ := q4 (off + j) (by omega)
                refine ⟨a, u, m1, ?_, VR.mono hup _ _ m3⟩
                show c'[off + L.sh + j]? = some u
                rw [← Array.getElem?_toList, hf, List.append_assoc, List.getElem?_append_left (by simp; omega), List.getElem?_take, if_pos (by omega)]
                rw [show off + L.sh + j = L.sh + (off + j) by omega]
                simpa using m2
              · rw [if_neg hj2]
                have hlt : j - len * i.size < vs.length := by omega
                obtain ⟨u, m1, m2⟩ := hv.get (j - len * i.size) _ (List.getElem?_eq_getElem hlt)
                refine ⟨_, u, List.getElem?_eq_getElem hlt, ?_, VR.mono hup _ _ m2⟩
                show c'[off + L.sh + j]? = some u
                rw [← Array.getElem?_toList, hf, List.append_assoc, List.getElem?_append_right (by simp; omega)]
                simp only [List.length_take, Array.length_toList]
                rw [List.getElem?_append_left (by omega), show off + L.sh + j - min (off + L.sh + len * i.size) c.size = j - len * i.size by omega]
                exact m1)
            refine ⟨_, _, .value (.slice (some ⟨L.cb, off + L.sh, none⟩) (len + n) cap), by rw [Sem.run_bind, hrun]; rfl, .inl ⟨_, rfl, ?_⟩, by rw [hs']; exact hWR, Th.le_upd (W.none_of_new hnew), ?_, ⟨r4, r5, r6, by omega, fun k hk => r2 k (by omega)⟩⟩
            · simp only [VR]
              exact ⟨_, _, rfl, Nat.le_refl _, hroom, _, Th.upd_self _ _ _, .inr ⟨by simp, by simp only; omega⟩⟩
            · rw [hs']
              exact set_dead_pend (by rw [g1]; simp) hnew
          · -- the machine makes a new row
            obtain ⟨oldA, olds, p1, p2, p3, p4⟩ : ∃ oldA olds, oldA.length = len * i.size ∧ (∀ j, j < len * i.size → oldA[j]? = tb.get (off + j)) ∧ VRs θ oldA olds ∧
                (Builtin.firstCells i.size len (.slice (some a0) len cap)).run C.P w.drew = .ok olds.toArray w.drew := by
              by_cases h0 : len * i.size = 0
              · refine ⟨[], [], by simp [h0], fun j hj => by omega, VRs.nil, ?_⟩
                show (Go.loadCells a0 (len * i.size)).run C.P w.drew = _
                rw [h0]; rfl
              · obtain ⟨L, g1, hL | ⟨rfl, g3⟩⟩ := hL
                · have : len = 0 := by omega
                  rw [this] at h0; simp at h0
                · obtain ⟨c, q1, q2, q3, q4⟩ := W.blk _ _ _ hb g1
                  obtain ⟨oldA, hoA⟩ := cellsAt_total q4 (len * i.size) off (by omega)
                  obtain ⟨m1, m2⟩ := cellsAt_get hoA
                  obtain ⟨olds, m3, m4, m5⟩ := cellsAt_sound q4 _ _ _ (by omega) hoA
                  refine ⟨oldA, olds, m1, m2, m4, ?_⟩
                  have := run_loadCells_list (P := C.P) w.drew ⟨L.cb, off + L.sh, none⟩ olds (fun j u hj => by
                    rw [Addr.add_mid, World.cell?_drew]
                    simp only [World.cell?, q1]
                    have := m5 j u hj
                    rw [show off + L.sh + j = L.sh + (off + j) by omega]
                    simpa using this)
                  rw [m3] at this
                  simpa [Builtin.firstCells] using this
            have hrun := run_append_grow_src (P := C.P) w t tx ty e' i z ht hi hz (some a0) len cap olds p4 y' n us hs (by omega) (by omega) (fits48 (by omega) hb1)
            have hcap := grownCap_ge w (len + n) cap e'
            have hol : (olds ++ us).length = (len + n) * i.size := by rw [List.length_append, hul, ← p3.length, p1, hsplit]
            have hsz := cells_grown hzs (olds ++ us) hol hcap
            have hTl : ∀ j, j < (oldA ++ vs).length → T'.get j = (oldA ++ vs)[j]? := by
              intro j hj
              rw [List.length_append, p1] at hj
              rw [hT j hj]
              by_cases hj2 : j < len * i.size
              · rw [if_pos hj2, List.getElem?_append_left (by rw [p1]; exact hj2), p2 j hj2]
              · rw [if_neg hj2, List.getElem?_append_right (by rw [p1]; omega), p1]
            have hrow : ABlk.row e' (len * i.size + vs.length) T' = ABlk.row e' (oldA ++ vs).length T' := by rw [List.length_append, p1]
            have hd : (s.heap.set b .dead).get b' = none := by
              rw [Tr.get_set, if_neg (by rintro rfl; rw [hb] at hnew; cases hnew)]; exact hnew
            obtain ⟨k1, k2⟩ := grow_ok (W.drop b) hd (x := .row e' (oldA ++ vs).length T') (o := .cells ((olds ++ us).toArray ++ Builtin.zeroCells z.cells (grownCap w (len + n) cap e' - (len + n))) e') (csz := grownCap w (len + n) cap e' * i.size)
              (fun θ' hle => BR_row_more (VRs.mono hle _ _ (p3.append hv)) hTl hsz)
            refine ⟨_, _, .value (.slice (some ⟨w.heap.size, 0, none⟩) (len + n) (grownCap w (len + n) cap e')), by rw [Sem.run_bind, hrun]; rfl, .inl ⟨_, rfl, ?_⟩, by rw [hs', hrow]; exact k1, ?_⟩
            · simp only [VR]
              exact ⟨_, _, rfl, Nat.le_refl _, hcap, _, Th.upd_self _ _ _, .inr ⟨by simp, by simp⟩⟩
            · rw [hs', hrow]
              refine ⟨k2.le, fun c y h1 h2 => ?_, k2.below⟩
              refine k2.pend c y h1 ?_
              rw [Tr.get_set, if_neg (by rintro rfl; obtain ⟨L, g1, _⟩ := hL; rw [g1] at h1; cases h1)]
              exact h2
  · cases h
end
end Go.AM

namespace Go.AM
open Go.RowKit
section
variable {C : Cfg} {θ : Th} {base : Nat} {s s' : St} {w : World} {tm : Tr AVal} {nt : Nat} {ts : Array Value} {v : AVal}

theorem OkV.same {P : Program} {lo : Nat} {h : Tr ABlk} {x : Sem Next} {v' : Value} (W : WR θ lo base h w) (hr : x.run P w = .ok (.value v') w) (hv : VR θ v v') : OkV P θ lo base h w x v h :=
  ⟨θ, w, _, hr, .inl ⟨v', rfl, hv⟩, W, Ext.refl _ _ _ _⟩

theorem opAppend_sound (hC : CfgOK C) (W : WR θ C.lo base s.heap w) {t0 t1 ty : TypeId} {x y : AVal} {x' y' : Value} (hx : VR θ x x') (hy : VR θ y y') (h : opAppend C t0 t1 s x y = some (.val v s')) :
    OkV C.P θ C.lo base s.heap w (do pure (.value (← Builtin.append_ #[t0, t1] ty #[x', y']))) v s'.heap := by
  unfold opAppend at h
  split at h
  · rename_i e e1 hu0 hu1
    split at h
    · rename_i size n hz hn
      obtain ⟨i, g1, g2⟩ := sizeOf_sound hC hz
      subst g2
      have hu0' := under_sound hC hu0
      have hu1' := under_sound hC hu1
      split at h
      · rename_i hn0
        have hn0 := of_nbeq hn0
        subst hn0
        have hsrc : (∃ c, y' = .slice none 0 c) ∨ (∃ a c, y' = .slice (some a) 0 c) → Src C.P i.size t1 y' 0 [] w := by
          rintro (⟨c, rfl⟩ | ⟨a, c, rfl⟩)
          · exact Src.ofNil w hu1' c
          · exact Src.ofSlice w hu1' a 0 c [] (by simp) (by simp) (by simp)
        have hyk : (y = .nilslice ∨ ∃ b off len cp es, y = .slice b off len cp es) → (∃ c, y' = .slice none 0 c) ∨ (∃ a c, y' = .slice (some a) 0 c) := by
          rintro (rfl | ⟨b, off, len, cp, es, rfl⟩)
          · simp only [VR] at hy; exact .inl ⟨0, hy⟩
          · unfold lenOf at hn
            cases hn
            simp only [VR] at hy
            obtain ⟨a, cap, rfl, _⟩ := hy
            exact .inr ⟨a, cap, rfl⟩
        have hxk : (x = .nilslice ∨ ∃ b off len cp es, x = .slice b off len cp es) → ∃ A l c, x' = .slice A l c ∧ l ≤ c := by
          rintro (rfl | ⟨b, off, len, cp, es, rfl⟩)
          · simp only [VR] at hx; exact ⟨none, 0, 0, hx, Nat.le_refl _⟩
          · simp only [VR] at hx
            obtain ⟨a, cap, rfl, h1, h2, _⟩ := hx
            exact ⟨some a, len, cap, rfl, by omega⟩
        have hfin : (x = .nilslice ∨ ∃ b off len cp es, x = .slice b off len cp es) → (y = .nilslice ∨ ∃ b off len cp es, y = .slice b off len cp es) →
            (Builtin.append_ #[t0, t1] ty #[x', y']).run C.P w = .ok x' w := by
          intro q1 q2
          obtain ⟨A, l, c, rfl, hlc⟩ := hxk q1
          exact run_append_nothing w t0 t1 ty e i hu0' g1 A l c hlc y' (hsrc (hyk q2))
        split at h <;> first | (cases h; done) | skip
        all_goals
          cases h
          refine OkV.same W (v' := x') ?_ hx
          rw [Sem.run_bind, hfin (by simp) (by simp)]
          rfl
      · rename_i hn0
        have hn0 := of_nbeq_false hn0
        split at h
        · rename_i b off len cp es
          split at h
          · rename_i vs hvs
            split at h
            · rename_i hfl
              unfold lenOf at hn
              cases hn
              simp only [VR] at hy
              obtain ⟨a, cap, rfl, h1, h2, L, h3, h4 | ⟨h4, h5⟩⟩ := hy
              · omega
              · subst h4
                obtain ⟨us, k1, k2, k3⟩ := loadCells_sound W h3 hvs
                have hs : Src C.P i.size t1 (.slice (some ⟨L.cb, off + L.sh, none⟩) n cap) n us w :=
                  Src.ofSlice w hu1' _ n cap us k1 (fun j u hj => by rw [Addr.add_mid]; exact k3 j u hj) (all_one k2 hfl)
                exact appendVs_sound hC W hu0' g1 hx hs k2 (by omega) h
            · cases h
          · cases h
        · cases h
    · cases h
  · rename_i e k hu0 hu1
    split at h
    · rename_i size k' n hz
      obtain ⟨i, g1, g2⟩ := sizeOf_sound hC hz
      subst g2
      have hu0' := under_sound hC hu0
      have hu1' := under_sound hC hu1
      simp only [VR] at hx hy
      subst hx hy
      split at h
      · rename_i hn0
        have hn0 := of_nbeq hn0
        subst hn0
        cases h
        refine OkV.same W (v' := .slice none 0 0) ?_ (by simp only [VR])
        simp [Builtin.append_, run_underlying hu0', run_underlying hu1', Go.sizeOf, typeInfo, g1, Go.asInt, asIntOf, IntKind.wrap_i64]
      · rename_i hn0
        have hn0 := of_nbeq_false hn0
        split at h
        · rename_i z hzz
          split at h
          · rename_i hc
            have hc' : (bytesOk C e n = true ∧ zeroOk C e i.size = true) ∧ Nat.blt 0 i.size = true := by simpa using hc
            obtain ⟨hb1, hb2, hb3⟩ := bytesOk_sound hC g1 hc'.1.1
            obtain ⟨z', hz', hzs⟩ := zeroOk_sound hC g1 hc'.1.2
            have hpos := of_blt hc'.2
            obtain ⟨i2, zc, q1, q2, q3⟩ := zero_sound (θ := θ) hC hzz
            rw [g1] at q1; cases q1
            rw [hz'] at q2; cases q2
            obtain ⟨h1, h2, h3⟩ := newRow_some h
            cases h3
            have hrun := Lib.run_append_nil_zeros (P := C.P) w t0 t1 ty e i z' k' k hu0' hu1' g1 hz' n (by omega) hpos (by omega) (by rw [Nat.mul_comm]; omega)
            have hcap := grownCap_ge w n 0 e
            have hr := repeat_VRs (θ := θ) n q3.cells
            rw [hzs] at hr
            have hzc : Builtin.zeroCells z'.cells n = ((Array.range (n * i.size)).map fun j => z'.cells[j % i.size]!) := by simp [Builtin.zeroCells, hzs]
            have e0 : ((Array.range (n * i.size)).map fun j => z'.cells[j % i.size]!) = ((Array.range (n * i.size)).map fun j => z'.cells[j % i.size]!).toList.toArray := by rw [Array.toArray_toList]
            rw [hzc, e0] at hrun
            have hsz := cells_grown hzs ((Array.range (n * i.size)).map fun j => z'.cells[j % i.size]!).toList (n := n) (by simp) hcap
            obtain ⟨k1, k2⟩ := grow_ok W h1 (x := .row e (repeatL z.cells n).length (Tr.leaf.setL 0 (repeatL z.cells n))) (o := .cells (((Array.range (n * i.size)).map fun j => z'.cells[j % i.size]!).toList.toArray ++ Builtin.zeroCells z'.cells (grownCap w n 0 e - n)) e) (csz := grownCap w n 0 e * i.size)
              (fun θ' hle => BR_row_more (VRs.mono hle _ _ hr) (fun j hj => by rw [Tr.get_setL, if_pos (by omega)]; simp) hsz)
            refine ⟨_, _, .value (.slice (some ⟨w.heap.size, 0, none⟩) n (grownCap w n 0 e)), ?_, .inl ⟨_, rfl, ?_⟩, k1, k2⟩
            · rw [Sem.run_bind]
              have e9 : (Value.int k' (Int.ofNat n)) = .int k' (n : Int) := rfl
              rw [e9, hrun]; rfl
            · simp only [VR]
              exact ⟨_, _, rfl, Nat.le_refl _, hcap, _, Th.upd_self _ _ _, .inr ⟨by simp, by simp⟩⟩
          · cases h
        · cases h
    · cases h
  · cases h

theorem repeat_one {z : AVal} {zc : Value} (h : VR θ z zc) : ∀ n, VRs θ (repeatL [z] n) (List.replicate n zc)
  | 0 => VRs.nil
  | n + 1 => by simp only [repeatL, List.replicate_succ]; exact VRs.cons h (repeat_one h n)
theorem flat_cells {z : AVal} {zc : Value} (h : VR θ z zc) (hf : z.flat = true) : zc.cells = #[zc] := by
  have := flat_one h hf
  cases zc <;> first | rfl | (simp [Value.oneCell'] at this)

theorem opClear_sound (hC : CfgOK C) (W : WR θ C.lo base s.heap w) {t0 ty : TypeId} {x : AVal} {x' : Value} (hx : VR θ x x') (h : opClear C t0 s x = some (.val v s')) :
    OkV C.P θ C.lo base s.heap w (do pure (.value (← Builtin.clear_ #[t0] ty #[x']))) v s'.heap := by
  unfold opClear at h
  split at h
  · rename_i b off n cp es
    split at h
    · rename_i e hu
      split at h
      · rename_i z hz
        split at h
        · rename_i hse
          have hpos := of_blt hse
          have hu' := under_sound hC hu
          obtain ⟨i, zc, q1, q2, q3⟩ := zero_sound (θ := θ) hC hz
          simp only [VR] at hx
          obtain ⟨a, cap, rfl, h1, h2, L, h3, h4⟩ := hx
          have hr := repeat_VRs (θ := θ) n q3.cells
          have hzc : Builtin.zeroCells zc.cells n = ((Array.range (n * zc.cells.size)).map fun j => zc.cells[j % zc.cells.size]!) := by simp [Builtin.zeroCells]
          rw [← hzc] at hr
          rcases Nat.eq_zero_or_pos n with hn | hn
          · subst hn
            rcases storeCells_some h with ⟨k1, k2⟩ | ⟨e1, m, t', k1, k2, k3, k4, k5⟩
            · cases k2
              refine OkV.same W (v' := .tuple #[]) ?_ (by simp only [VR]; exact ⟨_, rfl, VRs.nil⟩)
              simp [Builtin.clear_, run_underlying hu']
            · simp only [repeatL] at k5 k3
              cases k5
              obtain ⟨p1, p2, p3, p4⟩ := storeCells_sound (us := []) W k2 k1 h3 k3 VRs.nil
              refine ⟨θ, w, .value (.tuple #[]), ?_, .inl ⟨_, rfl, by simp only [VR]; exact ⟨_, rfl, VRs.nil⟩⟩, p1, ⟨Th.le_refl _, set_pend (by rw [h3]; simp), Below.refl _ _⟩⟩
              simp [Builtin.clear_, run_underlying hu']
          · have hL : a = ⟨L.cb, off + L.sh, none⟩ := by
              rcases h4 with h4 | ⟨h4, _⟩
              · omega
              · exact h4
            subst hL
            rcases storeCells_some h with ⟨k1, k2⟩ | ⟨e1, m, t', k1, k2, k3, k4, k5⟩
            · have h9 := repeatL_length z.cells n
              rw [k1] at h9
              have := Nat.mul_pos hn hpos
              simp at h9; omega
            · cases k5
              obtain ⟨p1, p2, p3, p4⟩ := storeCells_sound W k2 k1 h3 k3 hr
              have hst := run_storeCells_cells (P := C.P) L.cb (off + L.sh) (Builtin.zeroCells zc.cells n).toList 0 w (by simpa using p3) (by simpa using p4) (all_one hr k4)
              simp only [Nat.add_zero] at hst
              have hzv : (Go.zeroValue e).run C.P w = .ok zc w := by simp [Go.zeroValue, typeInfo, q1, q2]
              obtain ⟨m', rfl⟩ : ∃ m, n = m + 1 := ⟨n - 1, by omega⟩
              have hrun : (Builtin.clear_ #[t0] ty #[.slice (some ⟨L.cb, off + L.sh, none⟩) (m' + 1) cap]).run C.P w = .ok (.tuple #[]) (w.setCells L.cb (off + L.sh) (Builtin.zeroCells zc.cells (m' + 1)).toList) := by
                simp [Builtin.clear_, run_underlying hu', hzv, hst]
              refine ⟨θ, _, .value (.tuple #[]), by rw [Sem.run_bind, hrun]; rfl, .inl ⟨_, rfl, by simp only [VR]; exact ⟨_, rfl, VRs.nil⟩⟩, p1, ⟨Th.le_refl _, set_pend (by rw [h3]; simp), p2⟩⟩
        · cases h
      · cases h
    · cases h
  · cases h
end
end Go.AM

namespace Go.AM
open Go.RowKit
section
variable {C : Cfg} {θ : Th} {base : Nat} {s s' : St} {w : World} {tm : Tr AVal} {nt : Nat} {ts : Array Value} {v : AVal}

theorem bytesEq {a b : ByteArray} (h : (a == b) = true) : a = b := by
  rw [beq_toListBytes] at h
  rw [ByteArray.toList_eq, ByteArray.toList_eq] at h
  have := of_decide_eq_true (by simpa using h) (p := a.data.toList = b.data.toList)
  cases a; cases b
  simp_all

theorem beq_plain : ∀ (n m : Nat) (a b : AVal) (x y : Value), beqV n a b = true → plainV m a = true → VR θ a x → VR θ b y → x = y
  | 0, _, _, _, _, _, h, _, _, _ => by simp [beqV] at h
  | n + 1, 0, _, _, _, _, _, h, _, _ => by simp [plainV] at h
  | n + 1, m + 1, a, b, x, y, h, hp, hx, hy => by
    have key : ∀ (l l' : List AVal) (r r' : List Value), listBeq (beqV n) l l' = true → l.all (plainV m) = true → VRs θ l r → VRs θ l' r' → r = r' := by
      intro l
      induction l with
      | nil =>
        intro l' r r' h1 _ h3 h4
        cases l' with
        | nil => simp only [VRs] at h3 h4; rw [h3, h4]
        | cons _ _ => simp [listBeq] at h1
      | cons p q ih =>
        intro l' r r' h1 h2 h3 h4
        cases l' with
        | nil => simp [listBeq] at h1
        | cons p' q' =>
          unfold listBeq at h1
          split at h1
          · rename_i hb
            simp only [List.all_cons, Bool.and_eq_true] at h2
            simp only [VRs] at h3 h4
            obtain ⟨v1, r1, rfl, g1, g2⟩ := h3
            obtain ⟨v2, r2, rfl, g3, g4⟩ := h4
            rw [beq_plain n m p p' v1 v2 hb h2.1 g1 g3, ih q' r1 r2 h1 h2.2 g2 g4]
          · cases h1
    cases a <;> simp [plainV] at hp <;> cases b <;> simp only [beqV] at h <;> try (cases h; done)
    · rename_i p q
      simp only [VR] at hx hy
      subst hx hy
      cases p <;> cases q <;> simp_all
    · rename_i k p l q
      simp only [VR] at hx hy
      subst hx hy
      split at h
      · rename_i hk
        rw [kindBeq_eq hk]
        rw [intBeq_eq] at h
        have : p = q := by simpa using h
        rw [this]
      · cases h
    · rename_i p q
      simp only [VR] at hx hy
      obtain ⟨s1, rfl, h1⟩ := hx
      obtain ⟨s2, rfl, h2⟩ := hy
      have := str_beq h1 h2
      rw [h] at this
      have e : s1 = s2 := bytesEq this
      rw [e]
    · rename_i p q
      simp only [VR] at hx hy
      obtain ⟨c1, rfl, h1⟩ := hx
      obtain ⟨c2, rfl, h2⟩ := hy
      have := key p q _ _ h (by simpa using hp) h1 h2
      rw [Array.toList_inj.1 this]

theorem sameBits_plain : ∀ (m D : Nat) (a : AVal) (x : Value), m ≤ D → plainV m a = true → VR θ a x → Instr.sameBits D x x = true
  | 0, _, _, _, _, h, _ => by simp [plainV] at h
  | m + 1, 0, _, _, hD, _, _ => by omega
  | m + 1, D + 1, a, x, hD, hp, hx => by
    cases a <;> simp [plainV] at hp
    · simp only [VR] at hx; subst hx; simp [Instr.sameBits]
    · simp only [VR] at hx; subst hx; simp [Instr.sameBits]
    · simp only [VR] at hx; obtain ⟨s1, rfl, h1⟩ := hx; simp only [Instr.sameBits, beq_toListBytes]; simp
    · rename_i l
      simp only [VR] at hx
      obtain ⟨cs, rfl, h1⟩ := hx
      simp only [Instr.sameBits, beq_self_eq_true, Bool.true_and]
      generalize cs.toList = r at h1
      induction l generalizing r with
      | nil => simp only [VRs] at h1; subst h1; simp
      | cons p q ih =>
        simp only [VRs] at h1
        obtain ⟨v1, r1, rfl, g1, g2⟩ := h1
        simp only [List.zip_cons_cons, List.all_cons, Bool.and_eq_true]
        exact ⟨sameBits_plain m D p v1 (by omega) (hp p (by simp)) g1, ih (fun x hx => hp x (by simp [hx])) r1 g2⟩

theorem modify_set {α : Type} (f : α → α) : ∀ (l : List α) (i : Nat) (e : α), l[i]? = some e → l.modify i f = l.set i (f e)
  | [], i, e, h => by simp at h
  | x :: l, 0, e, h => by simp at h; subst h; simp
  | x :: l, i + 1, e, h => by simp at h; simp [modify_set f l i e h]

theorem putObj_below {b : Nat} (o : Obj) (hb : base ≤ b) : Below base w (w.putObj b o) :=
  ⟨rfl, rfl, rfl, by simp [World.putObj], fun k hk => World.putObj_heap_other (by omega)⟩
theorem WR.putObj {lo : Nat} {h : Tr ABlk} (W : WR θ lo base h w) {b : Nat} {x x' : ABlk} {L : Loc} (hlo : lo ≤ b) (hb : h.get b = some x) (hx : x ≠ .dead) (hθ : θ b = some L) {o : Obj} (hB : BR θ x' L (some o)) :
    WR θ lo base (h.set b x') (w.putObj L.cb o) ∧ Ext θ θ base h (h.set b x') w (w.putObj L.cb o) := by
  have hlt := W.lt _ _ hθ
  refine ⟨W.update hlo hb hx hθ (fun k hk => World.putObj_heap_other hk) (by simp [World.putObj]) (by rw [World.putObj_heap_same hlt]; exact hB), Th.le_refl _, set_pend (by rw [hθ]; simp), putObj_below _ (W.own _ _ _ hlo hb hθ hx)⟩
theorem run_getObj {P : Program} {r : Nat} {o : Obj} (h : w.heap[r]? = some o) (ho : ∀ c e f, o ≠ .cells c e f) : (getObj r).run P w = .ok o w := by
  cases o <;> simp [getObj, Sem.run, h]
  exact absurd rfl (ho _ _ _)
theorem run_setObj {P : Program} {r : Nat} {o o' : Obj} (h : w.heap[r]? = some o) (ho : ∀ c e f, o ≠ .cells c e f) : (setObj r o').run P w = .ok () (w.putObj r o') := by
  cases o <;> simp [setObj, Sem.run, h, World.putObj]
  exact absurd rfl (ho _ _ _)

theorem mapPut_sound (hC : CfgOK C) (_W : WR θ C.lo base s.heap w) {kt et t : TypeId} (hu : under C t = some (.map kt et)) {b : Nat} {L : Loc} {es : List (AVal × AVal × Nat)} {clock : Nat} {es' : Array MapEntry}
    (_hθ : θ b = some L) (_hlo : C.lo ≤ b) (_hb : s.heap.get b = some (.map es clock)) (k1 : w.heap[L.cb]? = some (.map es' clock)) (k2 : ERs θ es es'.toList) {k x : AVal} {k' x' : Value} (hk : VR θ k k') (hx : VR θ x x') (hok : keyOk C kt k = true) :
    (∀ i e, mapFind C kt k 0 es = some (some (i, e)) → beqV 3 k e.1 = true → plainV 3 k = true →
      ∃ o, (Instr.mapUpdate t (.map (some L.cb)) k' x').run C.P w = .ok () (w.putObj L.cb o) ∧ BR θ (.map (es.set i (k, x, e.2.2)) clock) L (some o)) ∧
    (mapFind C kt k 0 es = some none →
      ∃ o, (Instr.mapUpdate t (.map (some L.cb)) k' x').run C.P w = .ok () (w.putObj L.cb o) ∧ BR θ (.map (es ++ [(k, x, clock)]) (clock + 1)) L (some o)) := by
  have hu' := under_sound hC hu
  have hck := keyOk_sound hC hk hok false 9998 w
  simp only [Nat.reduceAdd] at hck
  have hg := run_getObj (P := C.P) k1 (by simp)
  constructor
  · intro i e hm hbq hpl
    obtain ⟨q, hq, hf⟩ := mapFind_sound (w := w) hC hk hok k2 hm
    cases q with
    | none => exact hf.elim
    | some ju =>
      obtain ⟨j, u⟩ := ju
      obtain ⟨e1, _, ent, e2, e3, e4⟩ := hf
      subst e1
      simp only [Nat.sub_zero] at e2
      have hkey : ent.key = k' := (beq_plain 3 3 k e.1 k' ent.key hbq hpl hk e3.1).symm
      have hsb := sameBits_plain 3 10000 k k' (by omega) hpl hk
      have hs := run_setObj (P := C.P) (o' := .map (es'.modify i fun e => { e with key := k', val := x' }) clock) k1 (by simp)
      have e2' : es'[i]? = some ent := by simpa using e2
      refine ⟨_, ?_, es'.modify i fun e => { e with key := k', val := x' }, rfl, ?_⟩
      · simp [Instr.mapUpdate, run_underlying hu', hg, hck, hq, e2', hkey, Instr.keyThatStays, hsb, hs]
      · rw [Array.toList_modify, modify_set _ _ _ _ e2]
        exact k2.set _ _ _ ⟨hk, hx, e3.2.2⟩
  · intro hm
    obtain ⟨q, hq, hf⟩ := mapFind_sound (w := w) hC hk hok k2 hm
    cases q with
    | some ju => exact hf.elim
    | none =>
      have hs := run_setObj (P := C.P) (o' := .map (es'.push { key := k', val := x', born := clock }) (clock + 1)) k1 (by simp)
      refine ⟨_, ?_, es'.push { key := k', val := x', born := clock }, rfl, ?_⟩
      · simp [Instr.mapUpdate, run_underlying hu', hg, hck, hq, hs]
      · rw [Array.toList_push]
        exact k2.append ⟨_, [], rfl, ⟨hk, hx, rfl⟩, rfl⟩

theorem opMapUpdate_sound (hC : CfgOK C) (W : WR θ C.lo base s.heap w) (T : TR θ tm nt ts) {t : TypeId} {m k x : Operand} (h : opMapUpdate C t (eval tm m) (eval tm k) (eval tm x) s = some (.val v s')) :
    OkV C.P θ C.lo base s.heap w (do Instr.mapUpdate t (ρ ts m) (ρ ts k) (ρ ts x); pure .skip) v s'.heap := by
  unfold opMapUpdate at h
  split at h
  · rename_i kt et b kv xv hu hm hk hx
    split at h
    · rename_i es clock hb hc
      have hc' := (Bool.and_eq_true _ _).mp hc
      have hlo := of_ble hc'.1
      have hmv := eval_sound T hm
      simp only [VR] at hmv
      obtain ⟨L, g1, g2⟩ := hmv
      obtain ⟨es', k1, k2⟩ := W.blk _ _ _ hb g1
      obtain ⟨A, B⟩ := mapPut_sound hC W hu g1 hlo hb k1 k2 (eval_sound T hk) (eval_sound T hx) hc'.2
      split at h
      · rename_i i e hf
        split at h
        · rename_i hq
          have hq' := (Bool.and_eq_true _ _).mp hq
          obtain ⟨o, r1, r2⟩ := A i e hf hq'.1 hq'.2
          rw [put_eq] at h
          cases h
          obtain ⟨w1, w2⟩ := W.putObj hlo hb (by simp) g1 r2
          refine ⟨θ, _, .skip, ?_, .inr ⟨rfl, rfl⟩, w1, w2⟩
          rw [g2, Sem.run_bind, r1]; rfl
        · cases h
      · rename_i hf
        obtain ⟨o, r1, r2⟩ := B hf
        rw [put_eq] at h
        cases h
        obtain ⟨w1, w2⟩ := W.putObj hlo hb (by simp) g1 r2
        refine ⟨θ, _, .skip, ?_, .inr ⟨rfl, rfl⟩, w1, w2⟩
        rw [g2, Sem.run_bind, r1]; rfl
      · cases h
    · cases h
  · cases h

theorem opMapEntry_sound (hC : CfgOK C) (W : WR θ C.lo base s.heap w) (T : TR θ tm nt ts) {t : TypeId} {m k : Operand} (h : opMapEntry C t (eval tm m) (eval tm k) s = some (.val v s')) :
    OkV C.P θ C.lo base s.heap w (do pure (.value (← Instr.mapEntry t (ρ ts m) (ρ ts k)))) v s'.heap := by
  unfold opMapEntry at h
  split at h
  · rename_i kt et b kv hu hm hk
    split at h
    · rename_i es clock hb hc
      have hc' := (Bool.and_eq_true _ _).mp hc
      have hlo := of_ble hc'.1
      have hmv := eval_sound T hm
      have hkv := eval_sound T hk
      simp only [VR] at hmv
      obtain ⟨L, g1, g2⟩ := hmv
      obtain ⟨es', k1, k2⟩ := W.blk _ _ _ hb g1
      have hu' := under_sound hC hu
      have hck := keyOk_sound hC hkv hc'.2 false 9998 w
      simp only [Nat.reduceAdd] at hck
      have hg := run_getObj (P := C.P) k1 (by simp)
      split at h
      · rename_i i e hf
        split at h
        · rename_i hq
          have hq' := (Bool.and_eq_true _ _).mp hq
          obtain ⟨q, hq1, hf1⟩ := mapFind_sound (w := w) hC hkv hc'.2 k2 hf
          cases q with
          | none => exact hf1.elim
          | some ju =>
            obtain ⟨j, u⟩ := ju
            obtain ⟨e1, _, ent, e2, e3, e4⟩ := hf1
            subst e1
            simp only [Nat.sub_zero] at e2
            have hkey : ent.key = ρ ts k := (beq_plain 3 3 kv e.1 _ ent.key hq'.1 hq'.2 hkv e3.1).symm
            have hsb := sameBits_plain 3 10000 kv _ (by omega) hq'.2 hkv
            have hs := run_setObj (P := C.P) (o' := .map (es'.modify i fun e => { e with key := ρ ts k }) clock) k1 (by simp)
            have e2' : es'[i]? = some ent := by simpa using e2
            rw [put_eq] at h
            cases h
            have hB : BR θ (.map (es.set i (kv, e.2.1, e.2.2)) clock) L (some (.map (es'.modify i fun e => { e with key := ρ ts k }) clock)) := by
              refine ⟨_, rfl, ?_⟩
              rw [Array.toList_modify, modify_set _ _ _ _ e2]
              exact k2.set _ _ _ ⟨hkv, e3.2.1, e3.2.2⟩
            obtain ⟨w1, w2⟩ := W.putObj hlo hb (by simp) g1 hB
            subst e4
            refine ⟨θ, _, .value (.tuple #[ent.val, .int .i64 ent.born]), ?_, .inl ⟨_, rfl, ?_⟩, w1, w2⟩
            · simp [Instr.mapEntry, run_underlying hu', g2, hg, hck, hq1, e2', hkey, Instr.keyThatStays, hsb, hs, goInt]
            · simp only [VR]
              exact ⟨_, rfl, VRs.cons e3.2.1 (VRs.cons (by simp only [VR]; rw [e3.2.2]; rfl) VRs.nil)⟩
        · cases h
      · rename_i hf
        split at h
        · rename_i z hz
          obtain ⟨q, hq1, hf1⟩ := mapFind_sound (w := w) hC hkv hc'.2 k2 hf
          cases q with
          | some ju => exact hf1.elim
          | none =>
            obtain ⟨zc, z1, z2⟩ := run_zero (θ := θ) hC hz w
            have hs := run_setObj (P := C.P) (o' := .map (es'.push { key := ρ ts k, val := zc, born := clock }) (clock + 1)) k1 (by simp)
            rw [put_eq] at h
            cases h
            have hB : BR θ (.map (es ++ [(kv, z, clock)]) (clock + 1)) L (some (.map (es'.push { key := ρ ts k, val := zc, born := clock }) (clock + 1))) := by
              refine ⟨_, rfl, ?_⟩
              rw [Array.toList_push]
              exact k2.append ⟨_, [], rfl, ⟨hkv, z2, rfl⟩, rfl⟩
            obtain ⟨w1, w2⟩ := W.putObj hlo hb (by simp) g1 hB
            refine ⟨θ, _, .value (.tuple #[zc, .int .i64 clock]), ?_, .inl ⟨_, rfl, ?_⟩, w1, w2⟩
            · simp [Instr.mapEntry, run_underlying hu', g2, hg, hck, hq1, z1, hs, goInt]
            · simp only [VR]
              exact ⟨_, rfl, VRs.cons z2 (VRs.cons (by simp only [VR]; rfl) VRs.nil)⟩
        · cases h
      · cases h
    · cases h
  · cases h
end
end Go.AM

namespace Go.AM
open Go.RowKit
section
variable {C : Cfg} {θ : Th} {base : Nat} {s s' : St} {w : World} {tm : Tr AVal} {nt : Nat} {ts : Array Value} {v : AVal}

theorem nbeq_eq (a b : Nat) : Nat.beq a b = (a == b) := by
  cases h : Nat.beq a b with
  | true => have := of_nbeq h; subst this; simp
  | false => have := of_nbeq_false h; simp [this]

theorem bornAt_sound {n : Nat} : ∀ {l : List (AVal × AVal × Nat)} {es : List MapEntry} {i j : Nat} {e : AVal × AVal × Nat}, ERs θ l es → bornAt n i l = some (j, e) →
    i ≤ j ∧ es.findIdx? (fun e => (e.born : Int) == (n : Int)) = some (j - i) ∧ ∃ ent, es[j - i]? = some ent ∧ ER θ e ent
  | [], _, _, _, _, _, h => by simp [bornAt] at h
  | x :: l, _, i, j, e, h0, h => by
    obtain ⟨ent, r, rfl, h2, h3⟩ := h0
    unfold bornAt at h
    split at h
    · rename_i hq
      cases h
      have := of_nbeq hq
      refine ⟨Nat.le_refl _, ?_, ent, by simp, h2⟩
      rw [List.findIdx?_cons]
      simp [h2.2.2, this]
    · rename_i hq
      have hne := of_nbeq_false hq
      obtain ⟨g1, g2, g3⟩ := bornAt_sound h3 h
      have hs : j - i = (j - (i + 1)) + 1 := by omega
      refine ⟨by omega, ?_, ?_⟩
      · rw [List.findIdx?_cons, h2.2.2, g2, hs]
        have hb : ((x.2.2 : Int) == (n : Int)) = false := by simp; omega
        simp [hb]
      · rw [hs]; simpa using g3

theorem opEntryStore_sound (W : WR θ C.lo base s.heap w) (T : TR θ tm nt ts) {t : TypeId} {m st x : Operand} (h : opEntryStore C (eval tm m) (eval tm st) (eval tm x) s = some (.val v s')) :
    OkV C.P θ C.lo base s.heap w (do Instr.entryStore t (ρ ts m) (ρ ts st) (ρ ts x); pure .skip) v s'.heap := by
  unfold opEntryStore at h
  split at h
  · rename_i b k n xv hm hst hx
    split at h
    · rename_i es clock hb hc
      have hlo := of_ble hc
      have hmv := eval_sound T hm
      have hsv := eval_sound T hst
      have hxv := eval_sound T hx
      simp only [VR] at hmv hsv
      obtain ⟨L, g1, g2⟩ := hmv
      obtain ⟨es', k1, k2⟩ := W.blk _ _ _ hb g1
      split at h
      · rename_i i e hf
        obtain ⟨_, f2, ent, f3, f4⟩ := bornAt_sound k2 hf
        rw [Nat.sub_zero] at f2 f3
        rw [put_eq] at h
        cases h
        have hg := run_getObj (P := C.P) k1 (by simp)
        have hs := run_setObj (P := C.P) (o' := .map (es'.modify i fun e => { e with val := ρ ts x }) clock) k1 (by simp)
        have hB : BR θ (.map (es.set i (e.1, xv, e.2.2)) clock) L (some (.map (es'.modify i fun e => { e with val := ρ ts x }) clock)) := by
          refine ⟨_, rfl, ?_⟩
          rw [Array.toList_modify, modify_set _ _ _ _ f3]
          exact k2.set _ _ _ ⟨f4.1, hxv, f4.2.2⟩
        obtain ⟨w1, w2⟩ := W.putObj hlo hb (by simp) g1 hB
        refine ⟨θ, _, .skip, ?_, .inr ⟨rfl, rfl⟩, w1, w2⟩
        have f2' : es'.findIdx? (fun e => (e.born : Int) == (n : Int)) = some i := by
          obtain ⟨l'⟩ := es'; simpa using f2
        have e1 : Int.ofNat n = (n : Int) := rfl
        simp [Instr.entryStore, g2, hsv, hg, Go.asInt, asIntOf, f2', hs]
      · cases h
    · cases h
  · cases h

theorem opRange_sound (hC : CfgOK C) (W : WR θ C.lo base s.heap w) (T : TR θ tm nt ts) {t : TypeId} {x : Operand} (h : opRange C t (eval tm x) s = some (.val v s')) :
    OkV C.P θ C.lo base s.heap w (do pure (.value (← Instr.range t (ρ ts x)))) v s'.heap := by
  unfold opRange at h
  split at h
  · rename_i l hu hx
    obtain ⟨h1, h2, h3⟩ := newBlk_some h
    cases h3
    have hxv := eval_sound T hx
    simp only [VR] at hxv
    obtain ⟨sv, g1, g2⟩ := hxv
    have hu' := under_sound hC hu
    have hθ := W.none_of_new h1
    have hle := Th.le_upd (L := ⟨w.heap.size, 0, 0⟩) hθ
    refine ⟨θ.upd s.next ⟨w.heap.size, 0, 0⟩, _, _, ?_, .inl ⟨.pointer (some ⟨w.heap.size, 0, none⟩), rfl, by simp only [VR]; exact ⟨_, Th.upd_self _ _ _, rfl⟩⟩,
      (W.pend hθ (.siter l 0)).made hθ (by rw [Tr.get_set, if_pos rfl]) (.stringIter sv 0) 0 (show BR _ (.siter l 0) _ _ from ⟨sv, rfl, g2⟩), hle, ?_, (Below.refl _ _).alloc W.size _⟩
    · simp [Instr.range, run_underlying hu', g1]
    · intro c y q1 q2
      have hne : c ≠ s.next := by intro e; rw [e, h1] at q2; cases q2
      exact ⟨by show (s.heap.set s.next _).get c = _; rw [Tr.get_set, if_neg hne]; exact q2, by simp [Th.upd, hne, q1]⟩
  · rename_i hu hx
    obtain ⟨h1, h2, h3⟩ := newBlk_some h
    cases h3
    have hxv := eval_sound T hx
    simp only [VR] at hxv
    have hu' := under_sound hC hu
    have hθ := W.none_of_new h1
    have hle := Th.le_upd (L := ⟨w.heap.size, 0, 0⟩) hθ
    refine ⟨θ.upd s.next ⟨w.heap.size, 0, 0⟩, _, _, ?_, .inl ⟨.pointer (some ⟨w.heap.size, 0, none⟩), rfl, by simp only [VR]; exact ⟨_, Th.upd_self _ _ _, rfl⟩⟩,
      (W.pend hθ (.miter none 0 [] 0)).made hθ (by rw [Tr.get_set, if_pos rfl]) (.mapIter none 0 #[] 0) 0 (show BR _ (.miter none 0 [] 0) _ _ from ⟨none, #[], 0, rfl, SeenR.same _ _, rfl⟩), hle, ?_, (Below.refl _ _).alloc W.size _⟩
    · simp [Instr.range, run_underlying hu', hxv]
    · intro c y q1 q2
      have hne : c ≠ s.next := by intro e; rw [e, h1] at q2; cases q2
      exact ⟨by show (s.heap.set s.next _).get c = _; rw [Tr.get_set, if_neg hne]; exact q2, by simp [Th.upd, hne, q1]⟩
  · rename_i m hu hx
    split at h
    · rename_i es clock hb
      obtain ⟨h1, h2, h3⟩ := newBlk_some h
      cases h3
      have hxv := eval_sound T hx
      simp only [VR] at hxv
      obtain ⟨L, g1, g2⟩ := hxv
      obtain ⟨es', k1, k2⟩ := W.blk _ _ _ hb g1
      have hg := run_getObj (P := C.P) k1 (by simp)
      have hu' := under_sound hC hu
      have hθ := W.none_of_new h1
      have hle := Th.le_upd (L := ⟨w.heap.size, 0, 0⟩) hθ
      refine ⟨θ.upd s.next ⟨w.heap.size, 0, 0⟩, _, _, ?_, .inl ⟨.pointer (some ⟨w.heap.size, 0, none⟩), rfl, by simp only [VR]; exact ⟨_, Th.upd_self _ _ _, rfl⟩⟩,
        (W.pend hθ (.miter (some m) clock [] s.next)).made hθ (by rw [Tr.get_set, if_pos rfl]) (.mapIter (some L.cb) clock #[] clock) 0 (show BR _ (.miter (some m) clock [] s.next) _ _ from ⟨some L.cb, #[], clock, rfl, SeenR.same _ _, rfl, L, hle _ _ g1, rfl⟩), hle, ?_, (Below.refl _ _).alloc W.size _⟩
      · simp [Instr.range, run_underlying hu', g2, hg]
      · intro c y q1 q2
        have hne : c ≠ s.next := by intro e; rw [e, h1] at q2; cases q2
        exact ⟨by show (s.heap.set s.next _).get c = _; rw [Tr.get_set, if_neg hne]; exact q2, by simp [Th.upd, hne, q1]⟩
    · cases h
  · cases h

theorem any_contains (seen : List Nat) (n : Nat) : seen.any (Nat.beq n) = seen.contains n := by
  induction seen with
  | nil => rfl
  | cons a l ih =>
    rw [List.any_cons, List.contains_cons, ih, nbeq_eq]
theorem leftOf_mem {seen : List Nat} : ∀ {l : List (AVal × AVal × Nat)} {es : List MapEntry} (j : Nat) {ent : MapEntry}, ERs θ l es → ent ∈ es → seen.contains ent.born = false →
    ∃ i a, (i, a) ∈ AM.leftOf seen j l ∧ ER θ a ent
  | [], _, _, _, h, hm, _ => by cases h; simp at hm
  | x :: l, _, j, ent, h0, hm, hs => by
    obtain ⟨e0, r, rfl, h2, h3⟩ := h0
    unfold AM.leftOf
    rw [any_contains]
    rcases List.mem_cons.1 hm with rfl | hm
    · rw [← h2.2.2, hs]
      exact ⟨j, x, by simp, h2⟩
    · obtain ⟨i, a, g1, g2⟩ := leftOf_mem (seen := seen) (Nat.succ j) h3 hm hs
      split
      · exact ⟨i, a, g1, g2⟩
      · exact ⟨i, a, List.mem_cons_of_mem _ g1, g2⟩
theorem leftOf_nil {seen : List Nat} : ∀ {l : List (AVal × AVal × Nat)} {es : List MapEntry} {j : Nat}, ERs θ l es → AM.leftOf seen j l = [] → es.filter (fun e => !seen.contains e.born) = []
  | [], _, _, h, _ => by cases h; rfl
  | x :: l, _, j, h0, h => by
    obtain ⟨e0, r, rfl, h2, h3⟩ := h0
    unfold AM.leftOf at h
    rw [any_contains] at h
    split at h
    · rename_i hq
      rw [List.filter_cons, h2.2.2, hq]
      exact leftOf_nil h3 h
    · cases h
theorem leftOf_cons {seen : List Nat} : ∀ {l : List (AVal × AVal × Nat)} {es : List MapEntry} {j : Nat}, ERs θ l es → AM.leftOf seen j l ≠ [] → es.filter (fun e => !seen.contains e.born) ≠ []
  | [], _, _, h, h' => by exact absurd rfl h'
  | x :: l, _, j, h0, h => by
    obtain ⟨e0, r, rfl, h2, h3⟩ := h0
    unfold AM.leftOf at h
    rw [any_contains] at h
    split at h
    · rename_i hq
      rw [List.filter_cons, h2.2.2, hq]
      exact leftOf_cons h3 h
    · rename_i hq
      rw [List.filter_cons, h2.2.2, hq]
      simp
theorem born_all {n : Nat} : ∀ {l : List (AVal × AVal × Nat)} {es : List MapEntry}, ERs θ l es → (l.all fun e => Nat.blt e.2.2 n) = true → ∀ x ∈ es, x.born < n
  | [], _, h, _, x, hx => by cases h; simp at hx
  | a :: l, _, h0, h, x, hx => by
    obtain ⟨e0, r, rfl, h2, h3⟩ := h0
    rw [List.all_cons, Bool.and_eq_true] at h
    rcases List.mem_cons.1 hx with rfl | hx
    · rw [h2.2.2]; exact of_blt h.1
    · exact born_all h3 h.2 x hx

theorem setBlock_put (w : World) (b : Nat) (o : Obj) : ChangeMaps.setBlock w b o = w.putObj b o := by
  simp [ChangeMaps.setBlock, World.putObj]

/-- what comes of it is one of these -/
def OkM (P : Program) (θ : Th) (lo base : Nat) (h : Tr ABlk) (w : World) (x : Sem Next) (l : List (AVal × St)) : Prop :=
  ∃ p ∈ l, OkV P θ lo base h w x p.1 p.2.heap
def OkR (P : Program) (θ : Th) (lo base : Nat) (h : Tr ABlk) (w : World) (x : Sem Next) : Out → Prop
  | .val v s => OkV P θ lo base h w x v s.heap
  | .many l => OkM P θ lo base h w x l
  | _ => False

theorem decode_ascii {s : ByteArray} {pos c : Nat} (h : (s.data.toList.map UInt8.toNat)[pos]? = some c) (hc : c < 128) : pos < s.size ∧ Utf8.decode s pos = (c, 1) := by
  have hlt : pos < s.data.size := by
    rcases Nat.lt_or_ge pos s.data.size with q | q
    · exact q
    · rw [List.getElem?_eq_none (by simpa using q)] at h; cases h
  refine ⟨hlt, ?_⟩
  have hg : (s.get! pos).toNat = c := by
    have h' : ∃ a, s.data[pos]? = some a ∧ a.toNat = c := by simpa using h
    obtain ⟨a, h1, h2⟩ := h'
    rw [Array.getElem?_eq_getElem hlt] at h1
    show (s.data[pos]!).toNat = c
    rw [getElem!_pos s.data pos hlt, Option.some.inj h1]
    exact h2
  unfold Utf8.decode
  simp only [Nat.add_zero, hg]
  rw [if_pos hc]

theorem opNext_sound (W : WR θ C.lo base s.heap w) (T : TR θ tm nt ts) {it : Operand} {b : Bool} {ty : TypeId} {o : Out} (h : opNext C (eval tm it) b s = some o) :
    OkR C.P θ C.lo base s.heap w (do pure (.value (← Instr.next (ρ ts it) b ty))) o := by
  unfold opNext at h
  split at h
  · rename_i i hi
    have hiv := eval_sound T hi
    simp only [VR] at hiv
    obtain ⟨L, g1, g2⟩ := hiv
    split at h
    · cases h
    · rename_i hlo0
      have hlo := of_ble hlo0
      split at h
      · rename_i l pos hb
        obtain ⟨sv, k1, k2⟩ := W.blk _ _ _ hb g1
        have hg := run_getObj (P := C.P) k1 (by simp)
        split at h
        · rename_i c hc
          split at h
          · rename_i h128
            rw [put_eq] at h
            cases h
            rw [← k2] at hc
            obtain ⟨d1, d2⟩ := decode_ascii hc (of_blt h128)
            have hs := run_setObj (P := C.P) (o' := .stringIter sv (pos + 1)) k1 (by simp)
            have hB : BR θ (.siter l (Nat.succ pos)) L (some (.stringIter sv (pos + 1))) := ⟨sv, rfl, k2⟩
            obtain ⟨w1, w2⟩ := W.putObj hlo hb (by simp) g1 hB
            refine ⟨θ, _, _, ?_, .inl ⟨.tuple #[.bool true, goInt pos, .int .i32 c], rfl, ?_⟩, w1, w2⟩
            · simp [Instr.next, g2, hg, d1, d2, hs]
            · simp only [VR]
              exact ⟨_, rfl, VRs.cons (by simp only [VR]) (VRs.cons (by simp only [VR]; rfl) (VRs.cons (by simp only [VR]; rfl) VRs.nil))⟩
          · cases h
        · rename_i hc
          cases h
          have hge : ¬ pos < sv.size := by
            rw [← k2] at hc
            intro hlt
            have hlt' : pos < sv.data.size := hlt
            have := List.getElem?_eq_none_iff.1 hc
            simp at this
            have e0 : sv.size = sv.data.size := rfl
            omega
          refine ⟨θ, w, _, ?_, .inl ⟨.tuple #[.bool false], rfl, ?_⟩, W, Ext.refl _ _ _ _⟩
          · simp [Instr.next, g2, hg, hge]
          · simp only [VR]
            exact ⟨_, rfl, VRs.cons (by simp only [VR]) VRs.nil⟩
      · rename_i x1 x2 x3 hb
        cases h
        obtain ⟨m', seen', st, k1, k2, k3⟩ := W.blk _ _ _ hb g1
        simp only at k3
        subst k3
        have hg := run_getObj (P := C.P) k1 (by simp)
        refine ⟨θ, w, _, ?_, .inl ⟨.tuple #[.bool false], rfl, ?_⟩, W, Ext.refl _ _ _ _⟩
        · simp [Instr.next, g2, hg]
        · simp only [VR]
          exact ⟨_, rfl, VRs.cons (by simp only [VR]) VRs.nil⟩
      · rename_i m since seen rb hb
        split at h
        · rename_i es clock hm
          split at h
          · rename_i hcond
            have hcond' := (Bool.and_eq_true _ _).mp hcond
            have hcs := of_nbeq hcond'.1
            obtain ⟨m', seen', st, k1, k2, k3, Lm, k4, k5⟩ := W.blk _ _ _ hb g1
            subst k5 k3
            obtain ⟨es', q1, q2⟩ := W.blk _ _ _ hm k4
            have hrun := run_next_at (P := C.P) w ty L.cb Lm.cb st st seen' es' clock k1 q1 (born_all q2 hcond'.2) (Nat.le_refl _)
            have hout : ∀ a ent, ER θ a ent → ∀ w1, (w1 = w ∨ w1 = w.drew) → (Instr.next (.pointer (some ⟨L.cb, 0, none⟩)) false ty).run C.P w = .ok (.tuple #[.bool true, ent.key, ent.val]) (ChangeMaps.setBlock w1 L.cb (.mapIter (some Lm.cb) st (seen'.push ent.born) clock)) →
                ∀ j, ∃ p, nextOne s i m st seen rb es (j, a) id = p ∧ OkV C.P θ C.lo base s.heap w (do pure (.value (← Instr.next (.pointer (some ⟨L.cb, 0, none⟩)) false ty))) p.1 p.2.heap := by
              intro a ent hE w1 hw1 hr j
              refine ⟨_, rfl, ?_⟩
              unfold nextOne
              rw [strictN_eq, put_eq]
              rw [setBlock_put] at hr
              have hB : BR θ (.miter (some m) st (seen ++ [a.2.2]) rb) L (some (.mapIter (some Lm.cb) st (seen'.push ent.born) clock)) :=
                ⟨some Lm.cb, seen'.push ent.born, clock, rfl, by rw [Array.toList_push, hE.2.2]; exact k2.push _, hcs, Lm, k4, rfl⟩
              have hW1 : WR θ C.lo base s.heap w1 := by rcases hw1 with rfl | rfl; exact W; exact W.drew
              obtain ⟨w2, w3⟩ := hW1.putObj hlo hb (by simp) g1 hB
              have hbel : Below base w (w1.putObj L.cb (.mapIter (some Lm.cb) st (seen'.push ent.born) clock)) := by
                rcases hw1 with rfl | rfl
                · exact w3.below
                · exact ((Below.refl _ _).drew).trans w3.below
              refine ⟨θ, _, _, ?_, .inl ⟨.tuple #[.bool true, ent.key, ent.val], rfl, ?_⟩, w2, w3.le, w3.pend, hbel⟩
              · rw [Sem.run_bind, hr]; rfl
              · simp only [id, VR]
                exact ⟨_, rfl, VRs.cons (by simp only [VR]) (VRs.cons hE.1 (VRs.cons hE.2.1 VRs.nil))⟩
            have hmem : ∀ ent, ent ∈ (Go.leftOf es' seen').toList → ∃ j a, (j, a) ∈ AM.leftOf seen 0 es ∧ ER θ a ent := by
              intro ent he
              unfold Go.leftOf at he
              simp only [Array.toList_filter, List.mem_filter] at he
              refine leftOf_mem 0 q2 he.1 ?_
              have := he.2
              rw [← k2.1 _ (Nat.ne_of_lt (born_all q2 hcond'.2 ent he.1))]
              simpa using this
            rw [g2]
            split at h
            · rename_i hnil
              rw [strictN_eq] at h
              cases h
              rcases hrun with ⟨_, hr⟩ | ⟨ent, he, _⟩
              · refine ⟨θ, w, _, ?_, .inl ⟨.tuple #[.bool false], rfl, ?_⟩, W, Ext.refl _ _ _ _⟩
                · rw [Sem.run_bind, hr]; rfl
                · simp only [VR]
                  exact ⟨_, rfl, VRs.cons (by simp only [VR]) VRs.nil⟩
              · obtain ⟨j, a, hj, _⟩ := hmem ent he
                rw [hnil] at hj
                simp at hj
            · rename_i e hone
              rcases hrun with ⟨h0, _⟩ | ⟨ent, he, w1, hw1, hr⟩
              · exact absurd (by
                  have := leftOf_cons (seen := seen) (j := 0) q2 (by rw [hone]; simp)
                  apply this
                  unfold Go.leftOf at h0
                  have h1 : (Array.filter (fun e => !seen'.contains e.born) es').toList = [] := by
                    apply List.length_eq_zero_iff.1; simpa using h0
                  rw [Array.toList_filter] at h1
                  rw [← h1]
                  refine List.filter_congr fun x hx => ?_
                  rw [← k2.1 _ (Nat.ne_of_lt (born_all q2 hcond'.2 x hx))]
                  simp) id
              · obtain ⟨j, a, hj, hE⟩ := hmem ent he
                rw [hone] at hj
                simp at hj
                subst hj
                obtain ⟨p, hp, hok⟩ := hout a ent hE w1 hw1 hr j
                unfold nextOne at h hp
                rw [strictN_eq, put_eq] at h hp
                cases h
                subst hp
                exact hok
            · rename_i hno hno1
              cases h
              rcases hrun with ⟨h0, _⟩ | ⟨ent, he, w1, hw1, hr⟩
              · exact absurd (by
                  have := leftOf_cons (seen := seen) (j := 0) q2 (fun hq => hno hq)
                  apply this
                  unfold Go.leftOf at h0
                  have h1 : (Array.filter (fun e => !seen'.contains e.born) es').toList = [] := by
                    apply List.length_eq_zero_iff.1; simpa using h0
                  rw [Array.toList_filter] at h1
                  rw [← h1]
                  refine List.filter_congr fun x hx => ?_
                  rw [← k2.1 _ (Nat.ne_of_lt (born_all q2 hcond'.2 x hx))]
                  simp) id
              · obtain ⟨j, a, hj, hE⟩ := hmem ent he
                obtain ⟨p, hp, hok⟩ := hout a ent hE w1 hw1 hr j
                exact ⟨p, List.mem_map.2 ⟨(j, a), hj, hp⟩, hok⟩
          · cases h
        · cases h
      · cases h
  · cases h

theorem find_born_sound {n : Nat} : ∀ {l : List (AVal × AVal × Nat)} {es : List MapEntry} {e : AVal × AVal × Nat}, ERs θ l es → l.find? (fun e => Nat.beq e.2.2 n) = some e →
    ∃ ent, es.find? (fun x => x.born == n) = some ent ∧ ER θ e ent
  | [], _, _, _, h => by simp at h
  | x :: l, _, e, h0, h => by
    obtain ⟨ent, r, rfl, h2, h3⟩ := h0
    rw [List.find?_cons] at h
    rw [List.find?_cons, h2.2.2]
    split at h
    · rename_i hq
      cases h
      refine ⟨ent, ?_, h2⟩
      have : (x.2.2 == n) = true := by rw [← nbeq_eq]; exact hq
      rw [this]
    · rename_i hq
      have : (x.2.2 == n) = false := by rw [← nbeq_eq]; simpa using hq
      rw [this]
      exact find_born_sound h3 h

theorem opEntry_sound (W : WR θ C.lo base s.heap w) (T : TR θ tm nt ts) {it : Operand} (h : opEntry (eval tm it) s = some (.val v s')) :
    s' = s ∧ ∃ v', (Instr.entry (ρ ts it)).run C.P w = .ok v' w ∧ VR θ v v' := by
  unfold opEntry at h
  split at h
  · rename_i i hi
    have hiv := eval_sound T hi
    simp only [VR] at hiv
    obtain ⟨L, g1, g2⟩ := hiv
    split at h
    · rename_i m since seen rb hb
      split at h
      · rename_i es clock n hm hlast
        split at h
        · rename_i k x bn hc hf
          cases h
          obtain ⟨m', seen', st, k1, k2, k3, Lm, k4, k5⟩ := W.blk _ _ _ hb g1
          subst k5 k3
          obtain ⟨es', q1, q2⟩ := W.blk _ _ _ hm k4
          have hc' := (Bool.and_eq_true _ _).mp hc
          have hcs := of_nbeq hc'.1
          have hns := of_blt hc'.2
          obtain ⟨ent, f1, f2⟩ := find_born_sound q2 hf
          have hg := run_getObj (P := C.P) k1 (by simp)
          have hg2 := run_getObj (P := C.P) q1 (by simp)
          have hback : seen'.back? = some n := by
            rw [← Array.getLast?_toList]
            rcases k2.2 with e | e
            · rw [hlast] at e; cases e; exact absurd hns (Nat.lt_irrefl _)
            · rw [e]; exact hlast
          have hfind : es'.find? (fun x => x.born == n) = some ent := by rw [← Array.find?_toList]; exact f1
          refine ⟨rfl, .tuple #[ent.key, ent.val], ?_, ?_⟩
          · simp [Instr.entry, g2, hg, hg2, hback, hcs, hfind]
          · simp only [VR]
            exact ⟨_, rfl, VRs.cons f2.1 (VRs.cons f2.2.1 VRs.nil)⟩
        · cases h
      · cases h
    · cases h
  · cases h
end
end Go.AM

namespace Go.AM
open Go.RowKit
section
variable {C : Cfg} {θ : Th} {base : Nat} {s s' : St} {w : World} {tm : Tr AVal} {nt : Nat} {ts : Array Value} {v : AVal}

theorem TR.set (T : TR θ tm nt ts) {d : Nat} {v : AVal} {v' : Value} (hd : d < nt) (hv : VR θ v v') : TR θ (tm.set d v) nt (ts.setIfInBounds d v') := by
  refine ⟨by simpa using T.1, fun x => ?_⟩
  rw [Tr.get_set]
  by_cases e : x = d
  · subst e
    rw [if_pos rfl]
    have hd' : x < ts.size := by rw [T.1]; exact hd
    simp [Array.getD, hd', hv]
  · rw [if_neg e]
    have := T.2 x
    have h2 : (ts.setIfInBounds d v').getD x Go.undef = ts.getD x Go.undef := by
      simp only [Array.getD_eq_getD_getElem?, Array.getElem?_setIfInBounds]
      rw [if_neg (fun h => e h.symm)]
    rw [h2]
    exact this

def isAlloc : Op → Bool
  | .alloc _ | .box .. | .buildSlice .. | .makeMap .. | .makeSlice .. => true
  | _ => false

theorem onlyVal_some {r : Res} {o : Out} (h : onlyVal r = some o) : ∃ v s, o = .val v s ∧ r = some (.val v s) := by
  unfold onlyVal at h
  split at h
  · cases h; exact ⟨_, _, rfl, rfl⟩
  · cases h

/-- what the frames say of it -/
def OutR (θ : Th) (fr : AFr) (callers : List AFr) : Out → Next → Prop
  | .val v _, nx => NV θ v nx ∨ (nx = .recover ∧ v = .niliface ∧ fr.roundOf = none ∧ fr.deferred = true ∧ ∃ c rest, callers = c :: rest ∧ c.mode = .returning)
  | .enter f args _, nx => ∃ args' : Array Value, nx = .enter f args' ∧ VRs θ args args'.toList
  | .round l f tm nt a b _, nx => ∃ L ts, θ l = some L ∧ nx = .round L.cb f ts a b ∧ TR θ tm nt ts
  | .defer d _, nx => ∃ d', nx = .defer d' ∧ DR θ d d'
  | .many _, _ => False
def Out.st : Out → St
  | .val _ s | .enter _ _ s | .round _ _ _ _ _ _ s | .defer _ s => s
  | .many _ => ⟨.leaf, 0, []⟩
def OutOK (P : Program) (θ : Th) (lo base : Nat) (h : Tr ABlk) (w : World) (x : Sem Next) (fr : AFr) (callers : List AFr) : Out → Prop
  | .many l => OkM P θ lo base h w x l
  | o => ∃ θ' w' nx, x.run P w = .ok nx w' ∧ OutR θ' fr callers o nx ∧ WR θ' lo base o.st.heap w' ∧ Ext θ θ' base h o.st.heap w w'

theorem OkV.out {x : Sem Next} {fr : AFr} {callers : List AFr} (h : OkV C.P θ C.lo base s.heap w x v s'.heap) : OutOK C.P θ C.lo base s.heap w x fr callers (.val v s') := by
  obtain ⟨θ', w', nx, h1, h2, h3, h4⟩ := h
  exact ⟨θ', w', nx, h1, .inl h2, h3, h4⟩

/-- it comes to the value and leaves all as it was -/
def Quiet (P : Program) (θ : Th) (w : World) (x : Sem Next) (v : AVal) : Prop := ∃ nx, x.run P w = .ok nx w ∧ NV θ v nx
theorem Quiet.of {x : Sem Value} (h : ∃ v', x.run C.P w = .ok v' w ∧ VR θ v v') : Quiet C.P θ w (do pure (.value (← x))) v := by
  obtain ⟨v', h1, h2⟩ := h
  exact ⟨.value v', by rw [Sem.run_bind, h1]; rfl, .inl ⟨v', rfl, h2⟩⟩
theorem Quiet.of' {x : Sem Next} (h : ∃ v', x.run C.P w = .ok (.value v') w ∧ VR θ v v') : Quiet C.P θ w x v := by
  obtain ⟨v', h1, h2⟩ := h
  exact ⟨.value v', h1, .inl ⟨v', rfl, h2⟩⟩
theorem Quiet.okV {x : Sem Next} (W : WR θ C.lo base s.heap w) (h : Quiet C.P θ w x v) : OkV C.P θ C.lo base s.heap w x v s.heap := by
  obtain ⟨nx, h1, h2⟩ := h
  exact ⟨θ, w, nx, h1, h2, W, Ext.refl _ _ _ _⟩

theorem aop1_quiet (hC : CfgOK C) (W : WR θ C.lo base s.heap w) (T : TR θ tm nt ts) {o : Oper} (hq : active o.op = false) (ha : isAlloc o.op = false)
    (h : aop1 C o.op tm s = some (.val v s')) : s' = s ∧ Quiet C.P θ w (execOp (ρ ts) o) v := by
  unfold aop1 at h
  split at h
  case h_1 x ho =>
    obtain ⟨h2, h1⟩ := val_some h
    exact ⟨h1, Quiet.of' ⟨_, by simp only [execOp, ho]; rfl, eval_sound T h2⟩⟩
  case h_2 x ho => rw [ho] at hq; cases hq
  case h_3 c a b ho =>
    obtain ⟨h1, h2⟩ := opPick_sound (w := w) T h
    exact ⟨h1, Quiet.of' (by simp only [execOp, ho]; exact h2)⟩
  case h_4 e ho => rw [ho] at ha; cases ha
  case h_5 e x ho => rw [ho] at ha; cases ha
  case h_6 t ps ho =>
    obtain ⟨h1, h2⟩ := opBuild_sound (w := w) hC T h
    exact ⟨h1, by simp only [execOp, ho]; exact Quiet.of h2⟩
  case h_7 t n ps ho => rw [ho] at ha; cases ha
  case h_8 t a ho =>
    obtain ⟨h1, h2⟩ := opLoad_sound hC W T h
    exact ⟨h1, by simp only [execOp, ho]; exact Quiet.of h2⟩
  case h_9 t a x ho => rw [ho] at hq; cases hq
  case h_10 x ho =>
    obtain ⟨h1, h2⟩ := opNil_sound (w := w) (C := C) T ho h
    exact ⟨h1, Quiet.of' h2⟩
  case h_11 op t x y ty ho =>
    obtain ⟨h1, h2⟩ := opBin_sound (w := w) hC T ho h
    exact ⟨h1, Quiet.of' h2⟩
  case h_12 op ty x ho =>
    obtain ⟨h1, h2⟩ := opUn_sound (C := C) (w := w) T h
    exact ⟨h1, by simp only [execOp, ho]; exact Quiet.of h2⟩
  case h_13 a b x ho =>
    obtain ⟨h1, h2⟩ := opConvert_sound (w := w) hC T h
    exact ⟨h1, by simp only [execOp, ho]; exact Quiet.of h2⟩
  case h_14 fn a b ho =>
    obtain ⟨h1, h2⟩ := opMakeFunc_sound (C := C) (w := w) T h
    exact ⟨h1, by simp only [execOp, ho]; exact Quiet.of h2⟩
  case h_15 t r ho => rw [ho] at ha; cases ha
  case h_16 t l c ho => rw [ho] at ha; cases ha
  case h_17 t x lo hi mx ho =>
    obtain ⟨h1, h2⟩ := opSlice_sound (w := w) hC T h
    exact ⟨h1, by simp only [execOp, ho]; exact Quiet.of h2⟩
  case h_18 t x f ho =>
    obtain ⟨h1, h2⟩ := opFieldAddr_sound (w := w) hC T h
    exact ⟨h1, by simp only [execOp, ho]; exact Quiet.of h2⟩
  case h_19 t x i ho =>
    obtain ⟨h1, h2⟩ := opIndexAddr_sound (w := w) hC T h
    exact ⟨h1, by simp only [execOp, ho]; exact Quiet.of h2⟩
  case h_20 t x i ho =>
    obtain ⟨h1, h2⟩ := opIndex_sound (w := w) hC T h
    exact ⟨h1, by simp only [execOp, ho]; exact Quiet.of h2⟩
  case h_21 t x k ok ho =>
    obtain ⟨h1, h2⟩ := opLookup_sound hC W T h
    exact ⟨h1, by simp only [execOp, ho]; exact Quiet.of h2⟩
  case h_22 t m k x ho => rw [ho] at hq; cases hq
  case h_23 t m k x ho => rw [ho] at hq; cases hq
  case h_24 t m k ho => rw [ho] at hq; cases hq
  case h_25 t m st x ho => rw [ho] at hq; cases hq
  case h_26 t x ho => rw [ho] at hq; cases hq
  case h_27 it ho =>
    obtain ⟨h1, h2⟩ := opEntry_sound W T h
    exact ⟨h1, by simp only [execOp, ho]; exact Quiet.of h2⟩
  case h_28 t i ho =>
    obtain ⟨h1, h2⟩ := opExtract_sound (C := C) (w := w) T h
    exact ⟨h1, by simp only [execOp, ho]; exact Quiet.of h2⟩
  case h_29 => cases h

theorem alloc_shape {o : Op} (ha : isAlloc o = true) (h : aop1 C o tm s = some (.val v s')) :
    ∃ y, s.heap.get s.next = none ∧ C.lo ≤ s.next ∧ s'.heap = s.heap.set s.next y ∧ y ≠ .dead := by
  cases o <;> simp only [isAlloc] at ha <;> try (cases ha; done)
  · simp only [aop1, opAlloc] at h
    split at h
    · obtain ⟨h1, h2, h3⟩ := newRow_some h
      cases h3
      exact ⟨_, h1, h2, rfl, by simp⟩
    · cases h
  · simp only [aop1, opBox] at h
    split at h
    · obtain ⟨h1, h2, h3⟩ := newRow_some h
      cases h3
      exact ⟨_, h1, h2, rfl, by simp⟩
    · cases h
  · simp only [aop1, opBuildSlice] at h
    split at h
    · split at h
      · split at h
        · cases h
        · split at h
          · obtain ⟨h1, h2, h3⟩ := newRow_some h
            cases h3
            exact ⟨_, h1, h2, rfl, by simp⟩
          · cases h
      · cases h
    · cases h
  · simp only [aop1, opMakeMap] at h
    split at h
    · obtain ⟨h1, h2, h3⟩ := newBlk_some h
      cases h3
      exact ⟨_, h1, h2, rfl, by simp⟩
    · cases h
  · simp only [aop1, opMakeSlice] at h
    split at h
    · split at h
      · split at h
        · obtain ⟨h1, h2, h3⟩ := newRow_some h
          cases h3
          exact ⟨_, h1, h2, rfl, by simp⟩
        · cases h
      · cases h
    · cases h

theorem aop1_alloc (hC : CfgOK C) {o : Oper} (ha : isAlloc o.op = true) (h : aop1 C o.op tm s = some (.val v s')) :
    ∃ y, s.heap.get s.next = none ∧ C.lo ≤ s.next ∧ s'.heap = s.heap.set s.next y ∧ y ≠ .dead ∧ ∀ θ ts nt, TR θ tm nt ts → Makes C.P θ (execOp (ρ ts) o) v s.next y := by
  obtain ⟨y, h1, h2, h3, h4⟩ := alloc_shape ha h
  refine ⟨y, h1, h2, h3, h4, fun θ ts nt T => ?_⟩
  have key : ∀ {x : Sem Next}, (∃ b y', s.heap.get b = none ∧ C.lo ≤ b ∧ b = s.next ∧ s'.heap = s.heap.set b y' ∧ y' ≠ .dead ∧ Makes C.P θ x v b y') → Makes C.P θ x v s.next y := by
    rintro x ⟨b, y', _, _, rfl, g1, _, g2⟩
    have : (s.heap.set s.next y).get s.next = (s.heap.set s.next y').get s.next := by rw [← h3, ← g1]
    rw [Tr.get_set, Tr.get_set, if_pos rfl, if_pos rfl] at this
    cases this
    exact g2
  unfold aop1 at h
  split at h
  case h_4 e ho => simp only [execOp, ho]; exact key (opAlloc_sound hC h)
  case h_5 e x ho => simp only [execOp, ho]; exact key (opBox_sound T h)
  case h_7 t n ps ho => simp only [execOp, ho]; exact key (opBuildSlice_sound hC T h)
  case h_15 t r ho => simp only [execOp, ho]; exact key (opMakeMap_sound h)
  case h_16 t l c ho => simp only [execOp, ho]; exact key (opMakeSlice_sound hC T h)
  all_goals first
    | (rename_i ho; rw [ho] at ha; cases ha; done)
    | cases h

theorem aop1_active (hC : CfgOK C) (W : WR θ C.lo base s.heap w) (T : TR θ tm nt ts) {o : Oper} (hq : active o.op = true)
    (h : aop1 C o.op tm s = some (.val v s')) : OkV C.P θ C.lo base s.heap w (execOp (ρ ts) o) v s'.heap := by
  unfold aop1 at h
  split at h
  case h_2 x ho =>
    obtain ⟨h2, h1⟩ := val_some h
    subst h1
    exact Quiet.okV W (Quiet.of' ⟨_, by simp only [execOp, ho]; rfl, eval_sound T h2⟩)
  case h_9 t a x ho => simp only [execOp, ho]; exact opStore_sound hC W T h
  case h_22 t m k x ho => simp only [execOp, ho]; exact opMapUpdate_sound hC W T h
  case h_23 t m k x ho => simp only [execOp, ho]; exact opMapUpdate_sound hC W T h
  case h_24 t m k ho => simp only [execOp, ho]; exact opMapEntry_sound hC W T h
  case h_25 t m st x ho => simp only [execOp, ho]; exact opEntryStore_sound W T h
  case h_26 t x ho => simp only [execOp, ho]; exact opRange_sound hC W T h
  all_goals first
    | (rename_i ho; rw [ho] at hq; cases hq; done)
    | cases h
end
end Go.AM

namespace Go.AM
open Go.RowKit
section
variable {C : Cfg} {θ : Th} {base : Nat} {s s' : St} {w : World} {tm : Tr AVal} {nt : Nat} {ts : Array Value} {v : AVal}

theorem VRs.array {l : List AVal} {xs : Array Operand} (T : TR θ tm nt ts) (h : evals tm xs.toList = some l) : VRs θ l (xs.map (ρ ts)).toList := by
  rw [Array.toList_map]; exact evals_sound T h

theorem callFn_sound (hC : CfgOK C) {f : FuncId} {args : List AVal} {args' : Array Value} {o : Out} (_ha : VRs θ args args'.toList) (h : callFn C f args s = some o) :
    o = .enter f args s ∧ (callFunc f args').run C.P w = .ok (.enter f args') w := by
  unfold callFn at h
  split at h
  · rename_i fn hf
    split at h
    · rename_i body hb
      cases h
      refine ⟨rfl, ?_⟩
      have h1 := hC.fns _ _ hf
      have h2 := hC.names _ _ hf (by rw [hb]; rfl)
      have h2' : ¬ fn.name = "runtime.NumGoroutine" := by simpa using h2
      simp [callFunc, h1, h2', hb]
    · cases h
  · cases h

theorem foldl_setK (l : List (Nat × AVal)) (tm : Tr AVal) : l.foldl (fun t x => t.setK x.1 x.2 id) tm = l.foldl (fun t x => t.set x.1 x.2) tm := rfl
theorem TR.foldl : ∀ {ps : List Nat} {as : List AVal} {bs : List Value} {tm : Tr AVal} {ts : Array Value}, TR θ tm nt ts → VRs θ as bs → (∀ p ∈ ps, p < nt) →
    TR θ ((ps.zip as).foldl (fun t x => t.setK x.1 x.2 id) tm) nt ((ps.zip bs).foldl (fun t (x : Nat × Value) => t.setIfInBounds x.1 x.2) ts)
  | [], _, _, _, _, T, _, _ => by simpa using T
  | p :: ps, [], bs, _, _, T, h, _ => by simp only [VRs] at h; subst h; simpa using T
  | p :: ps, a :: as, bs, tm, ts, T, h, hp => by
    simp only [VRs] at h
    obtain ⟨b, r, rfl, h1, h2⟩ := h
    simp only [List.zip_cons_cons, List.foldl_cons]
    exact TR.foldl (TR.set T (hp p (by simp)) h1) h2 (fun q hq => hp q (by simp [hq]))

theorem opBuiltin_sound (hC : CfgOK C) (W : WR θ C.lo base s.heap w) {b : Builtin} {ats : Array TypeId} {ty : TypeId} {consts : Array Bool} {args : List AVal} {args' : Array Value} {fr : AFr} {callers : List AFr}
    (ha : VRs θ args args'.toList) (h : opBuiltin C b ats args fr callers s = some (.val v s')) :
    OutOK C.P θ C.lo base s.heap w (builtin b ats ty consts args') fr callers (.val v s') := by
  have h1 : ∀ {x : AVal}, args = [x] → ∃ x', args' = #[x'] ∧ VR θ x x' := by
    intro x hx
    rw [hx] at ha
    simp only [VRs] at ha
    obtain ⟨x', r, e1, e2, e3⟩ := ha
    subst e3
    exact ⟨x', by apply Array.toList_inj.1; simpa using e1, e2⟩
  have h2 : ∀ {x y : AVal}, args = [x, y] → ∃ x' y', args' = #[x', y'] ∧ VR θ x x' ∧ VR θ y y' := by
    intro x y hx
    rw [hx] at ha
    simp only [VRs] at ha
    obtain ⟨x', r, e1, e2, y', r2, e3, e4, e5⟩ := ha
    subst e5 e3
    exact ⟨x', y', by apply Array.toList_inj.1; simpa using e1, e2, e4⟩
  unfold opBuiltin at h
  split at h
  · obtain ⟨x', e1, e2⟩ := h1 rfl
    subst e1
    obtain ⟨g1, g2⟩ := opLen_sound (ty := ty) hC W e2 h
    subst g1
    exact OkV.out (Quiet.okV W (Quiet.of g2))
  · split at h
    · rename_i t0 t1 hats
      obtain ⟨x', y', e1, e2, e3⟩ := h2 rfl
      subst e1
      have hats' : ats = #[t0, t1] := by apply Array.toList_inj.1; simpa using hats
      subst hats'
      exact OkV.out (opAppend_sound (ty := ty) hC W e2 e3 h)
    · cases h
  · split at h
    · rename_i t0 hats
      obtain ⟨x', e1, e2⟩ := h1 rfl
      subst e1
      have hats' : ats = #[t0] := by apply Array.toList_inj.1; simpa using hats
      subst hats'
      exact OkV.out (opClear_sound (ty := ty) hC W e2 h)
    · cases h
  · split at h
    · rename_i t0 hats
      split at h
      · rename_i e hu
        cases h
        obtain ⟨x', e1, e2⟩ := h1 rfl
        subst e1
        have hats' : ats = #[t0] := by apply Array.toList_inj.1; simpa using hats
        subst hats'
        simp only [VR] at e2
        subst e2
        refine OkV.out (Quiet.okV W (Quiet.of ⟨.int .i64 0, ?_, by simp only [VR]⟩))
        simp [Builtin.cap_, run_underlying (under_sound hC hu), goInt]
      · cases h
    · cases h
  · obtain ⟨x', y', e1, e2, e3⟩ := h2 rfl
    subst e1
    obtain ⟨g1, g2⟩ := val_some h
    subst g2
    exact OkV.out (Quiet.okV W (Quiet.of (opMin_sound (C := C) (w := w) (ats := ats) (ty := ty) e2 e3 g1)))
  · obtain ⟨x', y', e1, e2, e3⟩ := h2 rfl
    subst e1
    obtain ⟨g1, g2⟩ := val_some h
    subst g2
    exact OkV.out (Quiet.okV W (Quiet.of (opMax_sound (C := C) (w := w) (ats := ats) (ty := ty) e2 e3 g1)))
  · unfold opRecover at h
    split at h
    · rename_i c rest hr hd
      split at h
      · rename_i hm
        cases h
        exact ⟨θ, w, .recover, rfl, .inr ⟨rfl, rfl, hr, hd, c, rest, rfl, hm⟩, W, Ext.refl _ _ _ _⟩
      · cases h
    · cases h
  · cases h

theorem opCall_sound (hC : CfgOK C) (W : WR θ C.lo base s.heap w) (T : TR θ tm nt ts) {o : Oper} {c : Call} {fr : AFr} {callers : List AFr} {out : Out} (ho : o.op = .call c) (h : opCall C c tm fr callers s = some out) :
    OutOK C.P θ C.lo base s.heap w (execOp (ρ ts) o) fr callers out := by
  unfold opCall at h
  split at h
  · rename_i args hargs
    have ha := VRs.array T hargs
    split at h
    · rename_i b hb
      obtain ⟨v, s', rfl, h1⟩ := onlyVal_some h
      have h2 := opBuiltin_sound (ty := o.type) (consts := c.args.map fun | .const _ => true | _ => false) hC W ha h1
      obtain ⟨θ', w', nx, g1, g2⟩ := h2
      refine ⟨θ', w', nx, ?_, g2⟩
      simp only [execOp, ho, resolve, hb]
      exact g1
    · rename_i f hf
      split at h
      · rename_i fn first captured hev
        have hfv := eval_sound T hev
        simp only [VR] at hfv
        obtain ⟨a', b', g1, g2, g3⟩ := hfv
        have hA : VRs θ (first ++ (args ++ captured)) ((a' ++ c.args.map (ρ ts)) ++ b').toList := by
          rw [Array.toList_append, Array.toList_append, List.append_assoc]
          exact VRs.append g2 (VRs.append ha g3)
        obtain ⟨e1, e2⟩ := callFn_sound (w := w) hC hA h
        subst e1
        refine ⟨θ, w, _, ?_, ⟨_, rfl, hA⟩, W, Ext.refl _ _ _ _⟩
        simp only [execOp, ho, resolve, hf, g1, Deferred.ofValue]
        show (callFunc fn ((a' ++ c.args.map (ρ ts)) ++ b')).run C.P w = _
        exact e2
      · rename_i l hev
        have hfv := eval_sound T hev
        simp only [VR] at hfv
        obtain ⟨L, g1, g2⟩ := hfv
        split at h
        · rename_i p q fn tm2 nt2 ps a b d hl
          split at h
          · rename_i hcond
            cases h
            have hcond' := (Bool.and_eq_true _ _).mp hcond
            have hlen := of_nbeq hcond'.1
            obtain ⟨ts2, Ld, k1, k2, k3⟩ := W.blk _ _ _ hl g1
            have hp : ∀ p ∈ ps, p < nt2 := fun p hp => of_blt (List.all_eq_true.1 hcond'.2 p hp)
            have hlen2 := ha.length
            have hsz : c.args.size = ps.length := by
              rw [Array.toList_map, List.length_map] at hlen2
              rw [← hlen, hlen2]; rfl
            have hT := TR.foldl k2 ha hp
            refine ⟨θ, w, .round L.cb fn ((ps.zip (c.args.map (ρ ts)).toList).foldl (fun t (x : Nat × Value) => t.setIfInBounds x.1 x.2) ts2) a b, ?_, ⟨L, _, g1, rfl, hT⟩, W, Ext.refl _ _ _ _⟩
            have hg := run_getObj (P := C.P) k3 (by simp)
            simp only [execOp, ho, resolve, hf, g2, Deferred.ofValue]
            have e0 : ((#[] : Array Value) ++ c.args.map (ρ ts)).size = ps.length := by simp [hsz]
            have e1 : (ps.toArray.zip (#[] ++ c.args.map (ρ ts))).foldl (fun tmps (x : Nat × Value) => tmps.setIfInBounds x.1 x.2) ts2 = ((ps.zip (c.args.map (ρ ts)).toList).foldl (fun t (x : Nat × Value) => t.setIfInBounds x.1 x.2) ts2) := by
              rw [← Array.foldl_toList]
              simp
            show (Instr.yield L.cb (#[] ++ c.args.map (ρ ts))).run C.P w = _
            simp only [Instr.yield, Instr.getLoop, Sem.run_bind, hg, Result.andThen]
            show Sem.run C.P (if (#[] ++ Array.map (ρ ts) c.args).size ≠ ps.toArray.size then do
                stuck "yield: the wrong number of arguments"
                pure (Next.round L.cb fn ((ps.toArray.zip (#[] ++ c.args.map (ρ ts))).foldl (fun tmps (x : Nat × Value) => tmps.setIfInBounds x.1 x.2) ts2) a b)
              else pure (Next.round L.cb fn ((ps.toArray.zip (#[] ++ c.args.map (ρ ts))).foldl (fun tmps (x : Nat × Value) => tmps.setIfInBounds x.1 x.2) ts2) a b)) w = _
            rw [if_neg (by rw [e0]; simp), e1]
            rfl
          · cases h
        · cases h
      · cases h
    · cases h
  · cases h

theorem opDefer_sound (W : WR θ C.lo base s.heap w) (T : TR θ tm nt ts) {o : Oper} {c : Call} {fr : AFr} {callers : List AFr} {out : Out} (ho : o.op = .defer c) (h : opDefer c tm s = some out) :
    OutOK C.P θ C.lo base s.heap w (execOp (ρ ts) o) fr callers out := by
  unfold opDefer at h
  split at h
  · rename_i args f hargs hf
    have ha := VRs.array T hargs
    split at h
    · rename_i fn first captured hev
      cases h
      have hfv := eval_sound T hev
      simp only [VR] at hfv
      obtain ⟨a', b', g1, g2, g3⟩ := hfv
      refine ⟨θ, w, .defer { target := .fn (.func fn) b', args := a' ++ c.args.map (ρ ts) }, ?_, ⟨_, rfl, b', _, rfl, ?_⟩, W, Ext.refl _ _ _ _⟩
      · simp only [execOp, ho, resolve, hf, g1, Deferred.ofValue]
        rfl
      · rw [Array.toList_append, Array.toList_append]
        exact VRs.append (VRs.append g2 ha) g3
    · cases h
  · cases h

theorem OkR.out {x : Sem Next} {fr : AFr} {callers : List AFr} {o : Out} (h : OkR C.P θ C.lo base s.heap w x o) : OutOK C.P θ C.lo base s.heap w x fr callers o := by
  cases o with
  | val v s' => exact OkV.out h
  | many l => exact h
  | _ => exact h.elim

/-- what an operation comes to -/
theorem aop_sound (hC : CfgOK C) (W : WR θ C.lo base s.heap w) (T : TR θ tm nt ts) {o : Oper} {fr : AFr} {callers : List AFr} {out : Out} (h : aop C o.op tm fr callers s = some out) :
    OutOK C.P θ C.lo base s.heap w (execOp (ρ ts) o) fr callers out := by
  unfold aop at h
  split at h
  case h_1 c ho => exact opCall_sound hC W T ho h
  case h_2 c ho => exact opDefer_sound W T ho h
  case h_3 it b ho => simp only [execOp, ho]; exact OkR.out (opNext_sound W T h)
  case h_4 =>
    obtain ⟨v, s', rfl, h1⟩ := onlyVal_some h
    cases ha : isAlloc o.op with
    | true =>
      obtain ⟨y, g1, g2, g3, g4, g5⟩ := aop1_alloc hC ha h1
      exact OkV.out (Makes.okV W g1 g3 (g5 θ ts nt T))
    | false =>
      cases hq : active o.op with
      | true => exact OkV.out (aop1_active hC W T hq h1)
      | false =>
        obtain ⟨g1, g2⟩ := aop1_quiet hC W T hq ha h1
        subst g1
        exact OkV.out (Quiet.okV W g2)
end
end Go.AM

namespace Go.AM
open Go.RowKit
section
variable {C : Cfg} {tm tm' : Tr AVal} {s s' : St} {fr fr' : AFr} {callers callers' : List AFr} {v : AVal}

/-! ### an operation looks at its operands alone -/

theorem eval_congr {o : Op} (h : ∀ t ∈ opSlots o, tm.get t = tm'.get t) {x : Operand} (hx : x ∈ o.operands.toList) : eval tm x = eval tm' x := by
  cases x with
  | tmp t =>
    have : tm.get t = tm'.get t := h t (List.mem_filterMap.2 ⟨.tmp t, hx, rfl⟩)
    simp only [eval, this]
  | _ => rfl
theorem evals_congr : ∀ {xs : List Operand}, (∀ x ∈ xs, eval tm x = eval tm' x) → evals tm xs = evals tm' xs
  | [], _ => rfl
  | x :: xs, h => by
    simp only [evals]
    rw [h x (by simp), evals_congr fun y hy => h y (by simp [hy])]
theorem fills_congr (pl : Nat → Option (Nat × Nat)) : ∀ {ps : List (Nat × Operand)} (cells : List AVal), (∀ p ∈ ps, eval tm p.2 = eval tm' p.2) → fills pl tm cells ps = fills pl tm' cells ps
  | [], _, _ => rfl
  | (i, x) :: ps, cells, h => by
    simp only [fills]
    rw [h (i, x) (by simp)]
    have ih := fun c => fills_congr pl (ps := ps) c fun p hp => h p (by simp [hp])
    simp only [ih]
theorem opt_congr {x : Option Operand} (h : ∀ y, x = some y → eval tm y = eval tm' y) {β : Type} (d : β) (k : Option AVal → β) : opt tm x d k = opt tm' x d k := by
  cases x with
  | none => rfl
  | some y => simp only [opt, h y rfl]

theorem aop1_congr {o : Op} (h : ∀ t ∈ opSlots o, tm.get t = tm'.get t) : aop1 C o tm s = aop1 C o tm' s := by
  have H := fun x hx => eval_congr (o := o) h (x := x) hx
  cases o <;> simp only [aop1]
  all_goals try (simp only [Op.operands, List.mem_cons, List.not_mem_nil, or_false, forall_eq_or_imp, forall_eq] at H)
  case build t ps =>
    have hp : ∀ p ∈ ps.toList, eval tm p.2 = eval tm' p.2 := fun p hp => H p.2 (by simp; exact ⟨p.1, by simpa using hp⟩)
    have hf := fun pl c => fills_congr pl (ps := ps.toList) c hp
    simp only [opBuild, hf]
  case buildSlice t n ps =>
    have hp : ∀ p ∈ ps.toList, eval tm p.2 = eval tm' p.2 := fun p hp => H p.2 (by simp; exact ⟨p.1, by simpa using hp⟩)
    have hf := fun pl c => fills_congr pl (ps := ps.toList) c hp
    simp only [opBuildSlice, hf]
  case makeFunc fn a b =>
    have h1 : evals tm a.toList = evals tm' a.toList := evals_congr fun x hx => H x (by simp at hx ⊢; exact .inl hx)
    have h2 : evals tm b.toList = evals tm' b.toList := evals_congr fun x hx => H x (by simp at hx ⊢; exact .inr hx)
    simp only [opMakeFunc, h1, h2]
  case slice t x lo hi mx =>
    have h1 : eval tm x = eval tm' x := H x (by simp)
    simp only [opSlice, h1]
    have e1 := fun β d k => opt_congr (tm := tm) (tm' := tm') (x := lo) (fun y hy => H y (by simp [hy])) (β := β) d k
    have e2 := fun β d k => opt_congr (tm := tm) (tm' := tm') (x := hi) (fun y hy => H y (by simp [hy])) (β := β) d k
    have e3 := fun β d k => opt_congr (tm := tm) (tm' := tm') (x := mx) (fun y hy => H y (by simp [hy])) (β := β) d k
    simp only [e1, e2, e3]
  all_goals simp only [H]

theorem aop_congr {o : Op} (h : ∀ t ∈ opSlots o, tm.get t = tm'.get t) : aop C o tm fr callers s = aop C o tm' fr callers s := by
  have H := fun x hx => eval_congr (o := o) h (x := x) hx
  unfold aop
  split
  · rename_i c
    have h1 : evals tm c.args.toList = evals tm' c.args.toList := evals_congr fun x hx => H x (by simp [Op.operands, Call.operands] at hx ⊢; exact .inr hx)
    simp only [opCall, h1]
    split
    · split
      · rfl
      · rename_i f hf
        rw [H f (by simp [Op.operands, Call.operands, hf])]
      · rfl
    · rfl
  · rename_i c
    have h1 : evals tm c.args.toList = evals tm' c.args.toList := evals_congr fun x hx => H x (by simp [Op.operands, Call.operands] at hx ⊢; exact .inr hx)
    simp only [opDefer, h1]
    split
    · rename_i f _ hf
      rw [H f (by simp [Op.operands, Call.operands, hf])]
    · rfl
  · rename_i it b
    rw [H it (by simp [Op.operands])]
  · rw [aop1_congr h]

/-! ### quiet operations -/
def setSt (s : St) : Res → Res
  | some (.val v _) => some (.val v s)
  | r => r

theorem quiet_frame {o : Op} (hq : active o = false) : aop C o tm fr callers s = aop C o tm fr' callers' s := by
  unfold aop
  split
  · rename_i c
    simp only [active] at hq
    simp only [opCall]
    split
    · split
      · rename_i b hb
        rw [hb] at hq
        cases b <;> simp at hq <;> (congr 1; unfold opBuiltin; repeat' split) <;> first | rfl | simp_all
      · rename_i f hf
        simp [hf] at hq
      · rfl
    · rfl
  · rfl
  · rfl
  · rfl

theorem val_set (a : Option AVal) (s s' : St) : val a s' = setSt s' (val a s) := by cases a <;> rfl

theorem opPick_set (c a b : Option AVal) (s s' : St) : opPick c a b s' = setSt s' (opPick c a b s) := by
  unfold opPick; repeat' split
  all_goals rfl
theorem opBuild_set (t : TypeId) (ps : Array (Nat × Operand)) (s s' : St) : opBuild C t ps tm s' = setSt s' (opBuild C t ps tm s) := by
  unfold opBuild; repeat' split
  all_goals rfl
theorem opNil_set (x : Option AVal) (s s' : St) : opNil x s' = setSt s' (opNil x s) := by
  unfold opNil; split
  all_goals rfl
theorem opBin_set (op : BinOp) (t : TypeId) (a b : Operand) (x y : Option AVal) (s s' : St) : opBin C op t a b x y s' = setSt s' (opBin C op t a b x y s) := by
  unfold opBin; repeat' split
  all_goals first | rfl | exact val_set _ _ _
theorem opUn_set (op : UnOp) (x : Option AVal) (s s' : St) : opUn op x s' = setSt s' (opUn op x s) := by
  unfold opUn; split
  all_goals rfl
theorem opConvert_set (a b : TypeId) (x : Option AVal) (s s' : St) : opConvert C a b x s' = setSt s' (opConvert C a b x s) := by
  unfold opConvert; split
  all_goals rfl
theorem opMakeFunc_set (fn : Fn) (a b : Array Operand) (s s' : St) : opMakeFunc fn a b tm s' = setSt s' (opMakeFunc fn a b tm s) := by
  unfold opMakeFunc; split
  all_goals rfl
theorem opt_set {x : Option Operand} {k k' : Option AVal → Res} (h : ∀ a, k' a = setSt s' (k a)) : opt tm x none k' = setSt s' (opt tm x none k) := by
  unfold opt
  split
  · exact h _
  · split
    · exact h _
    · rfl
theorem opSlice_set (t : TypeId) (x : Option AVal) (lo hi mx : Option Operand) (s s' : St) : opSlice C t x lo hi mx tm s' = setSt s' (opSlice C t x lo hi mx tm s) := by
  unfold opSlice
  refine opt_set fun a => opt_set fun b => opt_set fun c => ?_
  repeat' split
  all_goals first | rfl | (repeat' split) <;> rfl
theorem opFieldAddr_set (t : TypeId) (x : Option AVal) (i : Nat) (s s' : St) : opFieldAddr C t x i s' = setSt s' (opFieldAddr C t x i s) := by
  unfold opFieldAddr; repeat' split
  all_goals rfl
theorem opIndexAddr_set (t : TypeId) (x i : Option AVal) (s s' : St) : opIndexAddr C t x i s' = setSt s' (opIndexAddr C t x i s) := by
  unfold opIndexAddr; repeat' split
  all_goals rfl
theorem opIndex_set (t : TypeId) (x i : Option AVal) (s s' : St) : opIndex C t x i s' = setSt s' (opIndex C t x i s) := by
  unfold opIndex; repeat' split
  all_goals first | rfl | exact val_set _ _ _
theorem opExtract_set (x : Option AVal) (i : Nat) (s s' : St) : opExtract x i s' = setSt s' (opExtract x i s) := by
  unfold opExtract; repeat' split
  all_goals rfl
theorem opLoad_set (t : TypeId) (a : Option AVal) (s : St) : opLoad C t a s = setSt s (opLoad C t a s) := by
  unfold opLoad; split
  · exact val_set _ _ _
  · rfl
theorem opLookup_set (t : TypeId) (x k : Option AVal) (ok : Bool) (s : St) : opLookup C t x k ok s = setSt s (opLookup C t x k ok s) := by
  unfold opLookup
  split
  · split
    · rfl
    · simp only
      split
      · rfl
      · split <;> rfl
      · rfl
  · rfl
theorem opEntry_set (x : Option AVal) (s : St) : opEntry x s = setSt s (opEntry x s) := by
  unfold opEntry; repeat' split
  all_goals rfl
theorem opLen_set (t : Option TypeId) (x : AVal) (s : St) : opLen C t s x = setSt s (opLen C t s x) := by
  unfold opLen; repeat' split
  all_goals rfl

theorem aop1_pure {o : Op} (hq : active o = false) (ha : isAlloc o = false) (hr : quietRead o = false) (s' : St) : aop1 C o tm s' = setSt s' (aop1 C o tm s) := by
  cases o <;> simp only [aop1] <;> try (simp [active] at hq; done)
  all_goals try (simp [isAlloc] at ha; done)
  all_goals try (simp [quietRead] at hr; done)
  all_goals first
    | rfl
    | exact val_set _ _ _
    | exact opPick_set _ _ _ _ _
    | exact opBuild_set _ _ _ _
    | exact opNil_set _ _ _
    | exact opBin_set _ _ _ _ _ _ _ _
    | exact opUn_set _ _ _ _
    | exact opConvert_set _ _ _ _ _
    | exact opMakeFunc_set _ _ _ _ _
    | exact opSlice_set _ _ _ _ _ _ _
    | exact opFieldAddr_set _ _ _ _ _
    | exact opIndexAddr_set _ _ _ _ _
    | exact opIndex_set _ _ _ _ _
    | exact opExtract_set _ _ _ _
theorem aop1_read {o : Op} (hq : active o = false) (ha : isAlloc o = false) (s : St) : aop1 C o tm s = setSt s (aop1 C o tm s) := by
  cases hr : quietRead o with
  | false => exact aop1_pure hq ha hr s
  | true =>
    cases o <;> simp only [aop1] <;> try (simp [quietRead] at hr; done)
    · exact opLoad_set _ _ _
    · exact opLookup_set _ _ _ _ _
    · exact opEntry_set _ _
    · rfl

theorem onlyVal_set (r : Res) (s : St) : onlyVal (setSt s r) = setSt s (onlyVal r) := by
  cases r with
  | none => rfl
  | some o => cases o <;> rfl

theorem call_set {c : Call} (hq : active (.call c) = false) (s s' : St) (h : ∀ b ats args, c.callee = .builtin b → opBuiltin C b ats args fr callers s' = setSt s' (opBuiltin C b ats args fr callers s)) :
    opCall C c tm fr callers s' = setSt s' (opCall C c tm fr callers s) := by
  simp only [active] at hq
  simp only [opCall]
  split
  · split
    · rename_i b hb
      rw [h _ _ _ hb, onlyVal_set]
    · rename_i f hf
      rw [hf] at hq
      simp at hq
    · rfl
  · rfl

theorem aop_pure {o : Op} (hq : active o = false) (ha : isAlloc o = false) (hr : quietRead o = false) (s s' : St) : aop C o tm fr callers s' = setSt s' (aop C o tm fr callers s) := by
  unfold aop
  split
  · rename_i c
    refine call_set hq s s' fun b ats args hb => ?_
    simp only [active, hb] at hq
    simp only [quietRead, hb] at hr
    cases b <;> simp at hq hr <;> simp only [opBuiltin]
    all_goals (repeat' split)
    all_goals first | rfl | exact val_set _ _ _ | simp_all
  · simp [active] at hq
  · simp [active] at hq
  · rw [aop1_pure hq ha hr (s := s) s', onlyVal_set]

theorem aop_read {o : Op} (hq : active o = false) (ha : isAlloc o = false) (s : St) : aop C o tm fr callers s = setSt s (aop C o tm fr callers s) := by
  cases hr : quietRead o with
  | false => exact aop_pure hq ha hr s s
  | true =>
    cases o <;> simp [quietRead] at hr
    · simp only [aop]; rw [← onlyVal_set]; exact congrArg onlyVal (aop1_read rfl rfl s)
    · simp only [aop]; rw [← onlyVal_set]; exact congrArg onlyVal (aop1_read rfl rfl s)
    · simp only [aop]; rw [← onlyVal_set]; exact congrArg onlyVal (aop1_read rfl rfl s)
    · rename_i c
      simp only [aop]
      refine call_set hq s s fun b ats args hb => ?_
      simp only [hb] at hr
      cases b <;> simp at hr
      simp only [opBuiltin]
      split
      all_goals first | exact opLen_set _ _ _ | rfl | simp_all
end
end Go.AM
