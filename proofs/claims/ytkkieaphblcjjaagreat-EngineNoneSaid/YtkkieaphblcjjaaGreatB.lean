/- What the two machines have to do with each other, and the first operations. Without conditions. -/
import Derived.Test.YtkkieaphblcjjaaGreatA
import Derived.Below
import Derived.Calls
import Derived.Deep.AppendSrc
import Derived.Deep.MidRow
import Derived.Laws.StructEq
import Derived.Laws.Tables
import Derived.Great.BuildSlice
import Derived.Room.AppendAny

namespace Go.AM
theorem nbeq_false {a b : Nat} (h : a ≠ b) : Nat.beq a b = false := by
  cases h' : Nat.beq a b with
  | false => rfl
  | true => exact absurd (Nat.eq_of_beq_eq_true h') h
theorem nbeq_true {a b : Nat} (h : a = b) : Nat.beq a b = true := by subst h; exact Nat.beq_refl a
theorem of_nbeq {a b : Nat} (h : Nat.beq a b = true) : a = b := Nat.eq_of_beq_eq_true h
theorem of_nbeq_false {a b : Nat} (h : Nat.beq a b = false) : a ≠ b := Nat.ne_of_beq_eq_false h
theorem of_ble {a b : Nat} (h : Nat.ble a b = true) : a ≤ b := Nat.le_of_ble_eq_true h
theorem of_blt {a b : Nat} (h : Nat.blt a b = true) : a < b := Nat.le_of_ble_eq_true h

/-! ### tries -/
theorem strictN_eq {β : Type} (n : Nat) (k : Nat → β) : strictN n k = k n := by cases n <;> rfl
theorem sh_eq (i : Nat) : sh (i + 1) = if i = 0 then Sh.one else if i % 2 = 1 then .l (i / 2 + 1) else .r (i / 2 - 1 + 1) := by
  unfold sh
  by_cases h : i = 0
  · subst h; rfl
  · have h0 : Nat.beq (i + 1) 1 = false := nbeq_false (by omega)
    rw [if_neg h, h0]
    show (Bool.rec _ _ (Nat.beq (Nat.mod (i + 1) 2) 0) : Sh) = _
    rw [strictN_eq, strictN_eq]
    by_cases h1 : i % 2 = 1
    · have h2 : Nat.beq (Nat.mod (i + 1) 2) 0 = true := nbeq_true (by show (i + 1) % 2 = 0; omega)
      rw [if_pos h1, h2]
      show Sh.l ((i + 1) / 2) = _
      congr 1; omega
    · have h2 : Nat.beq (Nat.mod (i + 1) 2) 0 = false := nbeq_false (by show ¬ (i + 1) % 2 = 0; omega)
      rw [if_neg h1, h2]
      show Sh.r ((i + 1) / 2) = _
      congr 1; omega
namespace Tr
variable {α β : Type}
noncomputable def set (t : Tr α) (i : Nat) (x : α) : Tr α := t.setK i x id

theorem get_leaf (i : Nat) : (Tr.leaf : Tr α).get i = none := rfl
theorem get_node (l : Tr α) (v : Option α) (r : Tr α) (i : Nat) :
    (Tr.node l v r).get i = if i = 0 then v else if i % 2 = 1 then l.get (i / 2) else r.get (i / 2 - 1) := by
  show (Sh.rec v l.getB r.getB (sh (i + 1)) : Option α) = _
  rw [sh_eq]
  by_cases h : i = 0
  · rw [if_pos h, if_pos h]
  · rw [if_neg h, if_neg h]
    by_cases h1 : i % 2 = 1
    · rw [if_pos h1, if_pos h1]; rfl
    · rw [if_neg h1, if_neg h1]; rfl
theorem singleB_cps (f j : Nat) (x : α) (k : Tr α → β) : singleB f j x k = k (singleB f j x id) := by
  induction f generalizing j β with
  | zero => rfl
  | succ f ih =>
    show (Sh.rec (k (.node .leaf (some x) .leaf)) (fun j => singleB f j x fun l => k (.node l none .leaf)) (fun j => singleB f j x fun r => k (.node .leaf none r)) (sh j) : β) =
      k (Sh.rec (Tr.node .leaf (some x) .leaf) (fun j => singleB f j x fun l => id (.node l none .leaf)) (fun j => singleB f j x fun r => id (.node .leaf none r)) (sh j))
    cases sh j with
    | one => rfl
    | l j => exact (ih j fun l => k (.node l none .leaf)).trans (congrArg k (ih j fun l => id (Tr.node l none .leaf)).symm)
    | r j => exact (ih j fun r => k (.node .leaf none r)).trans (congrArg k (ih j fun r => id (Tr.node .leaf none r)).symm)
theorem setB_cps (t : Tr α) (j : Nat) (x : α) (k : Tr α → β) : t.setB j x k = k (t.setB j x id) := by
  induction t generalizing j β with
  | leaf => exact singleB_cps j j x k
  | node l v r ihl ihr =>
    show (Sh.rec (k (.node l (some x) r)) (fun j => l.setB j x fun l => k (.node l v r)) (fun j => r.setB j x fun r => k (.node l v r)) (sh j) : β) =
      k (Sh.rec (Tr.node l (some x) r) (fun j => l.setB j x fun l => id (.node l v r)) (fun j => r.setB j x fun r => id (.node l v r)) (sh j))
    cases sh j with
    | one => rfl
    | l j => exact (ihl j fun l => k (.node l v r)).trans (congrArg k (ihl j fun l => id (Tr.node l v r)).symm)
    | r j => exact (ihr j fun r => k (.node l v r)).trans (congrArg k (ihr j fun r => id (Tr.node l v r)).symm)
theorem setK_eq (t : Tr α) (i : Nat) (x : α) (k : Tr α → β) : t.setK i x k = k (t.set i x) := setB_cps t (i + 1) x k
theorem set_node (l : Tr α) (v : Option α) (r : Tr α) (i : Nat) (x : α) :
    (Tr.node l v r).set i x = if i = 0 then .node l (some x) r else if i % 2 = 1 then .node (l.set (i / 2) x) v r else .node l v (r.set (i / 2 - 1) x) := by
  show (Sh.rec (Tr.node l (some x) r) (fun j => l.setB j x fun l => id (.node l v r)) (fun j => r.setB j x fun r => id (.node l v r)) (sh (i + 1)) : Tr α) = _
  rw [sh_eq]
  by_cases h : i = 0
  · rw [if_pos h, if_pos h]
  · rw [if_neg h, if_neg h]
    by_cases h1 : i % 2 = 1
    · rw [if_pos h1, if_pos h1]; exact setB_cps l _ x fun l => id (Tr.node l v r)
    · rw [if_neg h1, if_neg h1]; exact setB_cps r _ x fun r => id (Tr.node l v r)
theorem get_single (f i j : Nat) (x : α) (hi : i < 2 ^ f) : (singleB f (i + 1) x id).get j = if j = i then some x else none := by
  induction f generalizing i j with
  | zero =>
    have : i = 0 := by simpa using hi
    subst this
    show (Tr.node .leaf (some x) .leaf).get j = _
    rw [get_node]
    simp only [get_leaf]
    split <;> simp_all
  | succ f ih =>
    have h2 : 2 ^ (f + 1) = 2 * 2 ^ f := by rw [Nat.pow_succ]; omega
    show Tr.get (Sh.rec (Tr.node .leaf (some x) .leaf) (fun j => singleB f j x fun l => id (.node l none .leaf)) (fun j => singleB f j x fun r => id (.node .leaf none r)) (sh (i + 1)) : Tr α) j = _
    rw [sh_eq]
    by_cases h0 : i = 0
    · subst h0
      rw [if_pos rfl]
      show (Tr.node .leaf (some x) .leaf).get j = _
      rw [get_node]
      simp only [get_leaf]
      split <;> simp_all
    · rw [if_neg h0]
      by_cases h1 : i % 2 = 1
      · rw [if_pos h1]
        show (singleB f (i / 2 + 1) x fun l => id (Tr.node l none .leaf)).get j = _
        rw [singleB_cps]
        show (Tr.node (singleB f (i / 2 + 1) x id) none .leaf).get j = _
        rw [get_node, ih _ _ (by omega)]
        simp only [get_leaf]
        by_cases hj : j = 0
        · rw [if_pos hj, if_neg (by omega)]
        · rw [if_neg hj]
          by_cases hj1 : j % 2 = 1
          · rw [if_pos hj1]
            by_cases e : j = i
            · subst e; simp
            · rw [if_neg e, if_neg (by omega)]
          · rw [if_neg hj1, if_neg (by rintro rfl; exact hj1 h1)]
      · rw [if_neg h1]
        show (singleB f (i / 2 - 1 + 1) x fun r => id (Tr.node .leaf none r)).get j = _
        rw [singleB_cps]
        show (Tr.node .leaf none (singleB f (i / 2 - 1 + 1) x id)).get j = _
        rw [get_node, ih _ _ (by omega)]
        simp only [get_leaf]
        by_cases hj : j = 0
        · rw [if_pos hj, if_neg (by omega)]
        · rw [if_neg hj]
          by_cases hj1 : j % 2 = 1
          · rw [if_pos hj1, if_neg (by rintro rfl; exact h1 hj1)]
          · rw [if_neg hj1]
            by_cases e : j = i
            · subst e; simp
            · rw [if_neg e, if_neg (by omega)]
theorem get_set (t : Tr α) (i j : Nat) (x : α)  : (t.set i x).get j = if j = i then some x else t.get j := by
  induction t generalizing i j with
  | leaf => rw [get_leaf]; exact get_single (i + 1) i j x (Nat.lt_trans Nat.lt_two_pow_self (Nat.pow_lt_pow_right (by omega) (by omega)))
  | node l v r ihl ihr =>
    rw [set_node]
    by_cases h0 : i = 0
    · subst h0
      rw [if_pos rfl, get_node, get_node]
      by_cases hj : j = 0
      · rw [if_pos hj, if_pos hj]
      · rw [if_neg hj, if_neg hj, if_neg hj]
    · rw [if_neg h0]
      by_cases h1 : i % 2 = 1
      · rw [if_pos h1, get_node, get_node, ihl]
        by_cases hj : j = 0
        · rw [if_pos hj, if_pos hj, if_neg (by omega)]
        · rw [if_neg hj, if_neg hj]
          by_cases hj1 : j % 2 = 1
          · rw [if_pos hj1, if_pos hj1]
            by_cases e : j = i
            · subst e; simp
            · rw [if_neg e, if_neg (by omega)]
          · rw [if_neg hj1, if_neg hj1, if_neg (by rintro rfl; exact hj1 h1)]
      · rw [if_neg h1, get_node, get_node, ihr]
        by_cases hj : j = 0
        · rw [if_pos hj, if_pos hj, if_neg (by omega)]
        · rw [if_neg hj, if_neg hj]
          by_cases hj1 : j % 2 = 1
          · rw [if_pos hj1, if_pos hj1, if_neg (by rintro rfl; exact h1 hj1)]
          · rw [if_neg hj1, if_neg hj1]
            by_cases e : j = i
            · subst e; simp
            · rw [if_neg e, if_neg (by omega)]
end Tr

theorem strictI_eq {β : Type} (n : Int) (k : Int → β) : strictI n k = k n := by
  cases n with
  | ofNat m => exact strictN_eq m fun m => k (.ofNat m)
  | negSucc m => exact strictN_eq m fun m => k (.negSucc m)
theorem force_eq {β : Type} (v : AVal) (k : AVal → β) : v.force k = k v := by
  cases v <;> first
    | rfl
    | (simp only [AVal.force, strictN_eq, strictI_eq]; done)
    | (rename_i b; cases b <;> rfl)

/-! ### values -/
structure Loc where
  cb : Nat
  sh : Nat
  csz : Nat
abbrev Th := Nat → Option Loc
def Th.le (θ θ' : Th) : Prop := ∀ b L, θ b = some L → θ' b = some L
theorem Th.le_refl (θ : Th) : θ.le θ := fun _ _ h => h
theorem Th.le_trans {a b c : Th} (h : a.le b) (h' : b.le c) : a.le c := fun x L hx => h' x L (h x L hx)

mutual
def VR (θ : Th) : AVal → Value → Prop
  | .bool b, v => v = .bool b
  | .int k n, v => v = .int k n
  | .str l, v => ∃ s : ByteArray, v = .string s ∧ s.data.toList.map UInt8.toNat = l
  | .nilptr, v => v = .pointer none
  | .ptr b off, v => ∃ L, θ b = some L ∧ v = .pointer (some ⟨L.cb, off + L.sh, none⟩)
  | .nilslice, v => v = .slice none 0 0
  | .slice b off len cp es, v => ∃ a cap, v = .slice (some a) len cap ∧ len ≤ cp ∧ cp ≤ cap ∧
      ∃ L, θ b = some L ∧ (cap = 0 ∨ (a = ⟨L.cb, off + L.sh, none⟩ ∧ off + L.sh + cap * es ≤ L.csz))
  | .nilmap, v => v = .map none
  | .map b, v => ∃ L, θ b = some L ∧ v = .map (some L.cb)
  | .nilfunc, v => v = .nilFunc
  | .func f a b, v => ∃ a' b' : Array Value, v = .func (.func f) a' b' ∧ VRs θ a a'.toList ∧ VRs θ b b'.toList
  | .yield l, v => ∃ L, θ l = some L ∧ v = .func (.yield L.cb) #[] #[]
  | .iter i, v => ∃ L, θ i = some L ∧ v = .pointer (some ⟨L.cb, 0, none⟩)
  | .niliface, v => v = .nilIface
  | .iface t x, v => ∃ x', v = .iface t x' ∧ VR θ x x'
  | .agg l, v => ∃ cs : Array Value, v = .agg cs ∧ VRs θ l cs.toList
  | .tuple l, v => ∃ cs : Array Value, v = .tuple cs ∧ VRs θ l cs.toList
  | .mod k m r, v => ∃ n : Nat, v = .int k n ∧ n % m = r
  | .any, v => ∀ cs, v ≠ .agg cs
def VRs (θ : Th) : List AVal → List Value → Prop
  | [], vs => vs = []
  | a :: l, vs => ∃ v r, vs = v :: r ∧ VR θ a v ∧ VRs θ l r
end

mutual
theorem VR.mono {θ θ' : Th} (h : θ.le θ') : ∀ (a : AVal) (v : Value), VR θ a v → VR θ' a v
  | .bool _, _, hv => by simpa only [VR] using hv
  | .int _ _, _, hv => by simpa only [VR] using hv
  | .str _, _, hv => by simpa only [VR] using hv
  | .nilptr, _, hv => by simpa only [VR] using hv
  | .ptr _ _, _, hv => by
    simp only [VR] at hv ⊢
    obtain ⟨L, h1, h2⟩ := hv
    exact ⟨L, h _ _ h1, h2⟩
  | .nilslice, _, hv => by simpa only [VR] using hv
  | .slice _ _ _ _ _, _, hv => by
    simp only [VR] at hv ⊢
    obtain ⟨a, cap, h1, h2, h3, L, h5, h6⟩ := hv
    exact ⟨a, cap, h1, h2, h3, L, h _ _ h5, h6⟩
  | .nilmap, _, hv => by simpa only [VR] using hv
  | .map _, _, hv => by
    simp only [VR] at hv ⊢
    obtain ⟨L, h1, h2⟩ := hv
    exact ⟨L, h _ _ h1, h2⟩
  | .nilfunc, _, hv => by simpa only [VR] using hv
  | .func _ a b, _, hv => by
    simp only [VR] at hv ⊢
    obtain ⟨a', b', h1, h2, h3⟩ := hv
    exact ⟨a', b', h1, VRs.mono h a _ h2, VRs.mono h b _ h3⟩
  | .yield _, _, hv => by
    simp only [VR] at hv ⊢
    obtain ⟨L, h1, h2⟩ := hv
    exact ⟨L, h _ _ h1, h2⟩
  | .iter _, _, hv => by
    simp only [VR] at hv ⊢
    obtain ⟨L, h1, h2⟩ := hv
    exact ⟨L, h _ _ h1, h2⟩
  | .niliface, _, hv => by simpa only [VR] using hv
  | .iface _ x, _, hv => by
    simp only [VR] at hv ⊢
    obtain ⟨x', h1, h2⟩ := hv
    exact ⟨x', h1, VR.mono h x _ h2⟩
  | .agg l, _, hv => by
    simp only [VR] at hv ⊢
    obtain ⟨cs, h1, h2⟩ := hv
    exact ⟨cs, h1, VRs.mono h l _ h2⟩
  | .tuple l, _, hv => by
    simp only [VR] at hv ⊢
    obtain ⟨cs, h1, h2⟩ := hv
    exact ⟨cs, h1, VRs.mono h l _ h2⟩
  | .mod _ _ _, _, hv => by simpa only [VR] using hv
  | .any, _, hv => by simpa only [VR] using hv
theorem VRs.mono {θ θ' : Th} (h : θ.le θ') : ∀ (l : List AVal) (vs : List Value), VRs θ l vs → VRs θ' l vs
  | [], _, hv => by simpa only [VRs] using hv
  | a :: l, _, hv => by
    simp only [VRs] at hv ⊢
    obtain ⟨v, r, h1, h2, h3⟩ := hv
    exact ⟨v, r, h1, VR.mono h a v h2, VRs.mono h l r h3⟩
end

theorem VRs.nil {θ : Th} : VRs θ [] [] := by simp only [VRs]
theorem VRs.cons {θ : Th} {a : AVal} {v : Value} {l : List AVal} {r : List Value} (h : VR θ a v) (hr : VRs θ l r) : VRs θ (a :: l) (v :: r) := by
  simp only [VRs]; exact ⟨v, r, rfl, h, hr⟩
theorem VRs.length {θ : Th} : ∀ {l : List AVal} {r : List Value}, VRs θ l r → l.length = r.length
  | [], _, h => by simp only [VRs] at h; subst h; rfl
  | _ :: l, _, h => by
    simp only [VRs] at h
    obtain ⟨v, r, rfl, _, h3⟩ := h
    simp [VRs.length h3]
theorem VRs.append {θ : Th} : ∀ {l l' : List AVal} {r r' : List Value}, VRs θ l r → VRs θ l' r' → VRs θ (l ++ l') (r ++ r')
  | [], _, _, _, h, h' => by simp only [VRs] at h; subst h; exact h'
  | _ :: _, _, _, _, h, h' => by
    simp only [VRs] at h
    obtain ⟨v, r, rfl, h2, h3⟩ := h
    exact VRs.cons h2 (VRs.append h3 h')
theorem VRs.get {θ : Th} : ∀ {l : List AVal} {r : List Value}, VRs θ l r → ∀ (i : Nat) (a : AVal), l[i]? = some a → ∃ v, r[i]? = some v ∧ VR θ a v
  | [], _, _, i, a, hi => by simp at hi
  | x :: l, _, h, i, a, hi => by
    simp only [VRs] at h
    obtain ⟨v, r, rfl, h2, h3⟩ := h
    cases i with
    | zero => simp at hi; subst hi; exact ⟨v, by simp, h2⟩
    | succ i => simp at hi ⊢; exact VRs.get h3 i a hi
theorem VRs.of_get {θ : Th} : ∀ {l : List AVal} {r : List Value}, l.length = r.length → (∀ (i : Nat) (a : AVal) (v : Value), l[i]? = some a → r[i]? = some v → VR θ a v) → VRs θ l r
  | [], [], _, _ => VRs.nil
  | [], _ :: _, h, _ => by simp at h
  | _ :: _, [], h, _ => by simp at h
  | a :: l, v :: r, h, hv => VRs.cons (hv 0 a v (by simp) (by simp)) (VRs.of_get (by simpa using h) fun i a v ha hr => hv (i + 1) a v (by simpa using ha) (by simpa using hr))
theorem VRs.take {θ : Th} : ∀ {l : List AVal} {r : List Value} (n : Nat), VRs θ l r → VRs θ (l.take n) (r.take n)
  | [], _, n, h => by simp only [VRs] at h; subst h; simp [VRs]
  | x :: l, _, n, h => by
    simp only [VRs] at h
    obtain ⟨v, r, rfl, h2, h3⟩ := h
    cases n with
    | zero => simp [VRs]
    | succ n => simpa using VRs.cons h2 (VRs.take n h3)
theorem VRs.drop {θ : Th} : ∀ {l : List AVal} {r : List Value} (n : Nat), VRs θ l r → VRs θ (l.drop n) (r.drop n)
  | [], _, n, h => by simp only [VRs] at h; subst h; simp [VRs]
  | x :: l, _, n, h => by
    have h0 := h
    simp only [VRs] at h
    obtain ⟨v, r, rfl, h2, h3⟩ := h
    cases n with
    | zero => simpa using h0
    | succ n => simpa using VRs.drop n h3

theorem VR.cells {θ : Th} {a : AVal} {v : Value} (h : VR θ a v) : VRs θ a.cells v.cells.toList := by
  cases a <;> simp only [VR] at h
  case agg l =>
    obtain ⟨cs, rfl, h2⟩ := h
    simpa [AVal.cells, Value.cells] using h2
  all_goals first
    | (subst h; exact VRs.cons (by simp only [VR]) VRs.nil)
    | skip
  case str l => obtain ⟨s, rfl, h2⟩ := h; exact VRs.cons (by simp only [VR]; exact ⟨s, rfl, h2⟩) VRs.nil
  case ptr b off => obtain ⟨L, h1, rfl⟩ := h; exact VRs.cons (by simp only [VR]; exact ⟨L, h1, rfl⟩) VRs.nil
  case slice => obtain ⟨a, cap, rfl, h2⟩ := h; exact VRs.cons (by simp only [VR]; exact ⟨a, cap, rfl, h2⟩) VRs.nil
  case map => obtain ⟨L, h1, rfl⟩ := h; exact VRs.cons (by simp only [VR]; exact ⟨L, h1, rfl⟩) VRs.nil
  case func => obtain ⟨a', b', rfl, h2⟩ := h; exact VRs.cons (by simp only [VR]; exact ⟨a', b', rfl, h2⟩) VRs.nil
  case yield => obtain ⟨L, h1, rfl⟩ := h; exact VRs.cons (by simp only [VR]; exact ⟨L, h1, rfl⟩) VRs.nil
  case iter => obtain ⟨L, h1, rfl⟩ := h; exact VRs.cons (by simp only [VR]; exact ⟨L, h1, rfl⟩) VRs.nil
  case iface => obtain ⟨x', rfl, h2⟩ := h; exact VRs.cons (by simp only [VR]; exact ⟨x', rfl, h2⟩) VRs.nil
  case any =>
    have hc : v.cells = #[v] := by cases v <;> first | rfl | exact absurd rfl (h _)
    rw [hc]
    exact VRs.cons (by simp only [VR]; exact h) VRs.nil
  case mod => obtain ⟨n, rfl, h2⟩ := h; exact VRs.cons (by simp only [VR]; exact ⟨n, rfl, h2⟩) VRs.nil
  case tuple => obtain ⟨cs, rfl, h2⟩ := h; exact VRs.cons (by simp only [VR]; exact ⟨cs, rfl, h2⟩) VRs.nil

/-- the value that nothing has been put into -/
theorem VR.uv {θ : Th} : VR θ (.tuple []) Go.undef := by
  simp only [VR, VRs]; exact ⟨#[], rfl, rfl⟩
end Go.AM

namespace Go.AM
open Go.RowKit

/-! ### memory -/
def DR (θ : Th) : ADef → Deferred → Prop
  | .call f args, d => ∃ cap args' : Array Value, d = { target := .fn (.func f) cap, args := args' } ∧ VRs θ args (args' ++ cap).toList
  | .collected r, d => ∃ L, θ r = some L ∧ d = { target := .collected L.cb, args := #[] }
def DRs (θ : Th) : List ADef → List Deferred → Prop
  | [], ds => ds = []
  | a :: l, ds => ∃ d r, ds = d :: r ∧ DR θ a d ∧ DRs θ l r
theorem DR.mono {θ θ' : Th} (h : θ.le θ') {a : ADef} {d : Deferred} (hd : DR θ a d) : DR θ' a d := by
  cases a with
  | call f args => obtain ⟨cap, args', h1, h2⟩ := hd; exact ⟨cap, args', h1, VRs.mono h _ _ h2⟩
  | collected r => obtain ⟨L, h1, h2⟩ := hd; exact ⟨L, h _ _ h1, h2⟩
theorem DRs.mono {θ θ' : Th} (h : θ.le θ') : ∀ {l : List ADef} {ds : List Deferred}, DRs θ l ds → DRs θ' l ds
  | [], _, hd => hd
  | _ :: _, _, ⟨d, r, h1, h2, h3⟩ => ⟨d, r, h1, h2.mono h, DRs.mono h h3⟩
theorem DRs.append {θ : Th} : ∀ {l l' : List ADef} {r r' : List Deferred}, DRs θ l r → DRs θ l' r' → DRs θ (l ++ l') (r ++ r')
  | [], _, _, _, h, h' => by cases h; exact h'
  | _ :: _, _, _, _, ⟨d, r, h1, h2, h3⟩, h' => by subst h1; exact ⟨d, _, rfl, h2, DRs.append h3 h'⟩

/-- the slots -/
def TR (θ : Th) (tm : Tr AVal) (nt : Nat) (ts : Array Value) : Prop :=
  ts.size = nt ∧ ∀ d, VR θ ((tm.get d).getD (.tuple [])) (ts.getD d Go.undef)
theorem TR.mono {θ θ' : Th} (h : θ.le θ') {tm : Tr AVal} {nt : Nat} {ts : Array Value} (ht : TR θ tm nt ts) : TR θ' tm nt ts :=
  ⟨ht.1, fun d => VR.mono h _ _ (ht.2 d)⟩

def CellsR (θ : Th) (t : Tr AVal) (c : Array Value) (sh n : Nat) : Prop :=
  ∀ i, i < n → ∃ a v, t.get i = some a ∧ c[sh + i]? = some v ∧ VR θ a v
def ER (θ : Th) (a : AVal × AVal × Nat) (e : MapEntry) : Prop := VR θ a.1 e.key ∧ VR θ a.2.1 e.val ∧ e.born = a.2.2
def ERs (θ : Th) : List (AVal × AVal × Nat) → List MapEntry → Prop
  | [], es => es = []
  | a :: l, es => ∃ e r, es = e :: r ∧ ER θ a e ∧ ERs θ l r
theorem ERs.mono {θ θ' : Th} (h : θ.le θ') : ∀ {l : List (AVal × AVal × Nat)} {es : List MapEntry}, ERs θ l es → ERs θ' l es
  | [], _, hd => hd
  | _ :: _, _, ⟨e, r, h1, h2, h3⟩ => ⟨e, r, h1, ⟨VR.mono h _ _ h2.1, VR.mono h _ _ h2.2.1, h2.2.2⟩, ERs.mono h h3⟩

/-- what an iterator has seen already: the same numbers, but for 'since', which no entry bears; the last one is the last, if it is not 'since' -/
def SeenR (since : Nat) (l' l : List Nat) : Prop := (∀ n, n ≠ since → l'.contains n = l.contains n) ∧ (l.getLast? = some since ∨ l'.getLast? = l.getLast?)
theorem SeenR.same (since : Nat) (l : List Nat) : SeenR since l l := ⟨fun _ _ => rfl, .inr rfl⟩
theorem SeenR.push {since : Nat} {l' l : List Nat} (h : SeenR since l' l) (b : Nat) : SeenR since (l' ++ [b]) (l ++ [b]) := by
  refine ⟨fun n hn => ?_, .inr (by simp)⟩
  have := h.1 n hn
  simp only [List.contains_eq_mem, List.mem_append, Bool.decide_or] at this ⊢
  rw [this]
/-- what a block is at its place -/
def BR (θ : Th) (x : ABlk) (L : Loc) (o : Option Obj) : Prop :=
  match x with
  | .dead => True
  | .row e n t => ∃ c : Array Value, o = some (.cells c e (0, 0)) ∧ c.size = L.csz ∧ L.sh + n ≤ c.size ∧ CellsR θ t c L.sh n
  | .map es clock => ∃ es' : Array MapEntry, o = some (.map es' clock) ∧ ERs θ es es'.toList
  | .loop st p fn tm nt ps a b d => ∃ ts Ld, θ d = some Ld ∧ TR θ tm nt ts ∧
      o = some (.loop { state := st, pending := p, fn, tmps := ts, params := ps.toArray, assign := a, body := b, defers := Ld.cb })
  | .deferred calls => ∃ calls', o = some (.deferred calls') ∧ (match calls, calls' with
      | none, none => True
      | some l, some l' => DRs θ l l'
      | _, _ => False)
  | .siter l pos => ∃ s : ByteArray, o = some (.stringIter s pos) ∧ s.data.toList.map UInt8.toNat = l
  | .miter m since seen _ => ∃ (m' : Option Nat) (seen' : Array Nat) (st : Nat), o = some (.mapIter m' since seen' st) ∧ SeenR since seen'.toList seen ∧ (match m with
      | none => m' = none
      | some b => st = since ∧ ∃ Lm, θ b = some Lm ∧ m' = some Lm.cb)
theorem BR.mono {θ θ' : Th} (h : θ.le θ') {x : ABlk} {L : Loc} {o : Option Obj} (hb : BR θ x L o) : BR θ' x L o := by
  cases x with
  | dead => trivial
  | row e n t =>
    obtain ⟨c, h1, h2, h3, h4⟩ := hb
    exact ⟨c, h1, h2, h3, fun i hi => let ⟨a, v, g1, g2, g3⟩ := h4 i hi; ⟨a, v, g1, g2, VR.mono h _ _ g3⟩⟩
  | map es clock => obtain ⟨es', h1, h2⟩ := hb; exact ⟨es', h1, h2.mono h⟩
  | loop st p fn tm nt ps a b d => obtain ⟨ts, Ld, h1, h2, h3⟩ := hb; exact ⟨ts, Ld, h _ _ h1, h2.mono h, h3⟩
  | deferred calls =>
    obtain ⟨calls', h1, h2⟩ := hb
    refine ⟨calls', h1, ?_⟩
    cases calls <;> cases calls' <;> simp_all
    exact DRs.mono h h2
  | siter l pos => exact hb
  | miter m since seen base =>
    obtain ⟨m', seen', st, h1, h2, h3⟩ := hb
    refine ⟨m', seen', st, h1, h2, ?_⟩
    cases m with
    | none => exact h3
    | some b => obtain ⟨h4, Lm, h5, h6⟩ := h3; exact ⟨h4, Lm, h _ _ h5, h6⟩

structure WR (θ : Th) (lo base : Nat) (h : Tr ABlk) (w : World) : Prop where
  blk : ∀ b x L, h.get b = some x → θ b = some L → BR θ x L w.heap[L.cb]?
  own : ∀ b x L, lo ≤ b → h.get b = some x → θ b = some L → x ≠ .dead → base ≤ L.cb
  inj : ∀ b x L b' x' L', lo ≤ b → h.get b = some x → θ b = some L → x ≠ .dead → h.get b' = some x' → θ b' = some L' → x' ≠ .dead → L.cb = L'.cb → b = b'
  lt : ∀ b L, θ b = some L → L.cb < w.heap.size
  dom : ∀ b L, θ b = some L → h.get b ≠ none
  size : base ≤ w.heap.size

def Th.upd (θ : Th) (b : Nat) (L : Loc) : Th := fun x => if x = b then some L else θ x
theorem Th.le_upd {θ : Th} {b : Nat} {L : Loc} (h : θ b = none) : θ.le (θ.upd b L) := by
  intro x M hx
  unfold Th.upd
  split
  · rename_i e; subst e; rw [h] at hx; cases hx
  · exact hx
theorem Th.upd_self (θ : Th) (b : Nat) (L : Loc) : θ.upd b L b = some L := by simp [Th.upd]

section
variable {θ : Th} {lo base : Nat} {h : Tr ABlk} {w w' : World}

theorem WR.none_of_new (W : WR θ lo base h w) {b : Nat} (hb : h.get b = none) : θ b = none := by
  cases hθ : θ b with
  | none => rfl
  | some L => exact absurd hb (W.dom b L hθ)

/-- a block is another one -/
theorem WR.update (W : WR θ lo base h w) {b : Nat} {x x' : ABlk} {L : Loc} (hlo : lo ≤ b) (hb : h.get b = some x) (hx : x ≠ .dead) (hθ : θ b = some L)
    (hk : ∀ k, k ≠ L.cb → w'.heap[k]? = w.heap[k]?) (hs : w'.heap.size = w.heap.size) (hB : BR θ x' L w'.heap[L.cb]?) : WR θ lo base (h.set b x') w' where
  blk := by
    intro b1 x1 L1 h1 h2
    rw [Tr.get_set] at h1
    by_cases e : b1 = b
    · subst e
      rw [if_pos rfl] at h1
      cases h1
      rw [hθ] at h2; cases h2
      exact hB
    · rw [if_neg e] at h1
      by_cases hd : x1 = .dead
      · subst hd; trivial
      · have hne : L1.cb ≠ L.cb := fun e' => e (W.inj b x L b1 x1 L1 hlo hb hθ hx h1 h2 hd e'.symm).symm
        rw [hk _ hne]
        exact W.blk _ _ _ h1 h2
  own := by
    intro b1 x1 L1 h0 h1 h2 h3
    rw [Tr.get_set] at h1
    by_cases e : b1 = b
    · subst e
      exact W.own _ _ _ hlo hb h2 hx
    · rw [if_neg e] at h1
      exact W.own _ _ _ h0 h1 h2 h3
  inj := by
    intro b1 x1 L1 b2 x2 L2 h0 h1 h2 h3 h4 h5 h6 h7
    rw [Tr.get_set] at h1 h4
    by_cases e1 : b1 = b
    · by_cases e2 : b2 = b
      · rw [e1, e2]
      · rw [if_neg e2] at h4
        subst e1
        exact W.inj _ _ _ _ _ _ hlo hb h2 hx h4 h5 h6 h7
    · rw [if_neg e1] at h1
      by_cases e2 : b2 = b
      · subst e2
        exact W.inj _ _ _ _ _ _ h0 h1 h2 h3 hb h5 hx h7
      · rw [if_neg e2] at h4
        exact W.inj _ _ _ _ _ _ h0 h1 h2 h3 h4 h5 h6 h7
  lt := fun b1 L1 h1 => hs ▸ W.lt b1 L1 h1
  dom := by
    intro b1 L1 h1
    rw [Tr.get_set]
    split
    · simp
    · exact W.dom b1 L1 h1
  size := hs ▸ W.size

/-- a block is forgotten -/
theorem WR.drop (W : WR θ lo base h w) (b : Nat) : WR θ lo base (h.set b .dead) w where
  blk := by
    intro b1 x1 L1 h1 h2
    rw [Tr.get_set] at h1
    split at h1
    · cases h1; trivial
    · exact W.blk _ _ _ h1 h2
  own := by
    intro b1 x1 L1 h0 h1 h2 h3
    rw [Tr.get_set] at h1
    split at h1
    · cases h1; exact absurd rfl h3
    · exact W.own _ _ _ h0 h1 h2 h3
  inj := by
    intro b1 x1 L1 b2 x2 L2 h0 h1 h2 h3 h4 h5 h6 h7
    rw [Tr.get_set] at h1 h4
    split at h1
    · cases h1; exact absurd rfl h3
    · split at h4
      · cases h4; exact absurd rfl h6
      · exact W.inj _ _ _ _ _ _ h0 h1 h2 h3 h4 h5 h6 h7
  lt := W.lt
  dom := by
    intro b1 L1 h1
    rw [Tr.get_set]
    split
    · simp
    · exact W.dom b1 L1 h1
  size := W.size

/-- a block that the machine has not made yet -/
theorem WR.pend (W : WR θ lo base h w) {b : Nat} (hb : θ b = none) (x : ABlk) : WR θ lo base (h.set b x) w where
  blk := by
    intro b1 x1 L1 h1 h2
    rw [Tr.get_set] at h1
    split at h1
    · rename_i e; subst e; rw [hb] at h2; cases h2
    · exact W.blk _ _ _ h1 h2
  own := by
    intro b1 x1 L1 h0 h1 h2 h3
    rw [Tr.get_set] at h1
    split at h1
    · rename_i e; subst e; rw [hb] at h2; cases h2
    · exact W.own _ _ _ h0 h1 h2 h3
  inj := by
    intro b1 x1 L1 b2 x2 L2 h0 h1 h2 h3 h4 h5 h6 h7
    rw [Tr.get_set] at h1 h4
    split at h1
    · rename_i e; subst e; rw [hb] at h2; cases h2
    · split at h4
      · rename_i e; subst e; rw [hb] at h5; cases h5
      · exact W.inj _ _ _ _ _ _ h0 h1 h2 h3 h4 h5 h6 h7
  lt := W.lt
  dom := by
    intro b1 L1 h1
    rw [Tr.get_set]
    split
    · simp
    · exact W.dom b1 L1 h1
  size := W.size

/-- the machine makes a block that is known here already -/
theorem WR.made (W : WR θ lo base h w) {b : Nat} {x : ABlk} (hb : θ b = none) (hx : h.get b = some x) (o : Obj) (csz : Nat)
    (hB : BR (θ.upd b ⟨w.heap.size, 0, csz⟩) x ⟨w.heap.size, 0, csz⟩ (some o)) : WR (θ.upd b ⟨w.heap.size, 0, csz⟩) lo base h (w.alloc o) where
  blk := by
    intro b1 x1 L1 h1 h2
    by_cases e : b1 = b
    · subst e
      rw [Th.upd_self] at h2
      cases h2
      rw [hx] at h1; cases h1
      show BR _ _ _ (w.heap.push o)[w.heap.size]?
      rw [Array.getElem?_push_size]
      exact hB
    · have h2' : θ b1 = some L1 := by simpa [Th.upd, e] using h2
      have := W.lt _ _ h2'
      show BR _ _ _ (w.heap.push o)[L1.cb]?
      rw [Array.getElem?_push, if_neg (by omega)]
      exact (W.blk _ _ _ h1 h2').mono (Th.le_upd hb)
  own := by
    intro b1 x1 L1 h0 h1 h2 h3
    by_cases e : b1 = b
    · subst e
      rw [Th.upd_self] at h2
      cases h2
      exact W.size
    · exact W.own _ _ _ h0 h1 (by simpa [Th.upd, e] using h2) h3
  inj := by
    intro b1 x1 L1 b2 x2 L2 h0 h1 h2 h3 h4 h5 h6 h7
    by_cases e1 : b1 = b
    · by_cases e2 : b2 = b
      · rw [e1, e2]
      · subst e1
        rw [Th.upd_self] at h2; cases h2
        have := W.lt b2 L2 (by simpa [Th.upd, e2] using h5)
        simp at h7; omega
    · by_cases e2 : b2 = b
      · subst e2
        rw [Th.upd_self] at h5; cases h5
        have := W.lt b1 L1 (by simpa [Th.upd, e1] using h2)
        simp at h7; omega
      · exact W.inj _ _ _ _ _ _ h0 h1 (by simpa [Th.upd, e1] using h2) h3 h4 (by simpa [Th.upd, e2] using h5) h6 h7
  lt := by
    intro b1 L1 h1
    show _ < (w.heap.push o).size
    rw [Array.size_push]
    by_cases e : b1 = b
    · subst e
      rw [Th.upd_self] at h1; cases h1
      simp
    · have := W.lt b1 L1 (by simpa [Th.upd, e] using h1)
      omega
  dom := by
    intro b1 L1 h1
    by_cases e : b1 = b
    · subst e; rw [hx]; simp
    · exact W.dom b1 L1 (by simpa [Th.upd, e] using h1)
  size := by
    show _ ≤ (w.heap.push o).size
    rw [Array.size_push]
    exact Nat.le_succ_of_le W.size

/-- the machine draws -/
theorem WR.drew (W : WR θ lo base h w) : WR θ lo base h w.drew := ⟨W.blk, W.own, W.inj, W.lt, W.dom, W.size⟩
theorem WR.sameHeap (W : WR θ lo base h w) (e : w'.heap = w.heap) : WR θ lo base h w' := by
  constructor
  · rw [e]; exact W.blk
  · exact W.own
  · exact W.inj
  · rw [e]; exact W.lt
  · exact W.dom
  · rw [e]; exact W.size
end

/-- what a step leaves as it was -/
structure Ext (θ θ' : Th) (base : Nat) (h h' : Tr ABlk) (w w' : World) : Prop where
  le : θ.le θ'
  pend : ∀ b x, θ b = none → h.get b = some x → h'.get b = some x ∧ θ' b = none
  below : Below base w w'
theorem Ext.refl (θ : Th) (base : Nat) (h : Tr ABlk) (w : World) : Ext θ θ base h h w w := ⟨Th.le_refl _, fun _ _ h1 h2 => ⟨h2, h1⟩, Below.refl _ _⟩
theorem Ext.trans {θ θ' θ'' : Th} {base : Nat} {h h' h'' : Tr ABlk} {w w' w'' : World} (a : Ext θ θ' base h h' w w') (b : Ext θ' θ'' base h' h'' w' w'') : Ext θ θ'' base h h'' w w'' :=
  ⟨Th.le_trans a.le b.le, fun x y h1 h2 => let ⟨g1, g2⟩ := a.pend x y h1 h2; b.pend x y g2 g1, a.below.trans b.below⟩
end Go.AM

namespace Go.AM
open Go.RowKit

structure CfgOK (C : Cfg) : Prop where
  ty : ∀ t i, C.ty.get t = some i → C.P.info? t = some i
  fns : ∀ f fn, C.fns.get f = some fn → C.P.funcs[f]? = some fn
  names : ∀ f fn, C.fns.get f = some fn → fn.body.isSome = true → (fn.name == "runtime.NumGoroutine") = false
  plain : ∀ t, C.plain.any (Nat.beq t) = true → C.P.stoodInHeld t = false ∧ C.P.eqGuardType C.P.depth t = false

theorem under_sound {C : Cfg} (hC : CfgOK C) {t : TypeId} {d : TypeDesc} (h : under C t = some d) : C.P.underlying t = some d := by
  unfold under at h
  split at h
  · rename_i i hi
    have h1 := hC.ty _ _ hi
    split at h
    · rename_i nm u hd
      split at h
      · rename_i j hj
        have h2 := hC.ty _ _ hj
        cases h
        obtain ⟨_, _⟩ := i
        simp only at hd; subst hd
        simp [Program.underlying, h1, h2]
      · cases h
    · rename_i hd
      cases h
      obtain ⟨dd, _⟩ := i
      simp only [Program.underlying, h1]
      split
      · rename_i heq
        cases heq
        exact absurd rfl (hd _ _)
      · rename_i heq
        cases heq; rfl
      · rename_i heq; cases heq
  · cases h
theorem sizeOf_sound {C : Cfg} (hC : CfgOK C) {t : TypeId} {n : Nat} (h : sizeOf C t = some n) : ∃ i, C.P.info? t = some i ∧ i.size = n := by
  unfold sizeOf at h
  split at h
  · rename_i i hi; cases h; exact ⟨i, hC.ty _ _ hi, rfl⟩
  · cases h
theorem run_sizeOf {C : Cfg} (hC : CfgOK C) {t : TypeId} {n : Nat} (h : AM.sizeOf C t = some n) (w : World) : (Go.sizeOf t).run C.P w = .ok n w := by
  obtain ⟨i, h1, h2⟩ := sizeOf_sound hC h
  simp [Go.sizeOf, typeInfo, h1, h2]
theorem isAgg_sound {C : Cfg} (hC : CfgOK C) {t : TypeId} {b : Bool} (h : AM.isAgg C t = some b) (w : World) : (Go.isAgg t).run C.P w = .ok b w := by
  unfold AM.isAgg at h
  split at h <;> cases h <;> rename_i hu <;> simp [Go.isAgg, run_underlying (under_sound hC hu)]

theorem ofValue_sound {θ : Th} : ∀ (n : Nat) (v : Value) (a : AVal), ofValue n v = some a → VR θ a v := by
  intro n
  induction n with
  | zero => intro v a h; simp [ofValue] at h
  | succ n ih =>
    have hl : ∀ (vs : List Value) (l : List AVal), vs.mapM (ofValue n) = some l → VRs θ l vs := by
      intro vs
      induction vs with
      | nil => intro l h; simp at h; subst h; exact VRs.nil
      | cons v r ihr =>
        intro l h
        simp only [List.mapM_cons] at h
        cases h1 : ofValue n v with
        | none => simp [h1] at h
        | some a =>
          cases h2 : r.mapM (ofValue n) with
          | none => simp [h1, h2] at h
          | some l' =>
            simp [h1, h2] at h
            subst h
            exact VRs.cons (ih v a h1) (ihr l' h2)
    intro v a h
    unfold ofValue at h
    split at h
    · cases h; simp only [VR]
    · cases h; simp only [VR]
    · cases h; simp only [VR]; exact ⟨_, rfl, rfl⟩
    · cases h; simp only [VR]
    · cases h; simp only [VR]
    · cases h; simp only [VR]
    · cases h; simp only [VR]
    · cases h; simp only [VR]
    · split at h
      · rename_i hx; cases h; simp only [VR]; exact ⟨_, rfl, ih _ _ hx⟩
      · cases h
    · split at h
      · rename_i hx; cases h; simp only [VR]; exact ⟨_, rfl, hl _ _ hx⟩
      · cases h
    · split at h
      · rename_i hx; cases h; simp only [VR]; exact ⟨_, rfl, hl _ _ hx⟩
      · cases h
    · cases h

/-- what an operand is -/
def ρ (ts : Array Value) : Operand → Value
  | .tmp t => ts.getD t Go.undef
  | .const v => v
  | .global g => .pointer (some ⟨g, 0, none⟩)
  | .func f => .func (.func f) #[] #[]
theorem eval_sound {θ : Th} {tm : Tr AVal} {nt : Nat} {ts : Array Value} (T : TR θ tm nt ts) {x : Operand} {v : AVal} (h : eval tm x = some v) : VR θ v (ρ ts x) := by
  cases x with
  | tmp t =>
    have := T.2 t
    unfold eval at h
    simp only at h
    cases hg : tm.get t with
    | none => rw [hg] at h this; cases h; exact this
    | some a => rw [hg] at h this; cases h; exact this
  | const c => exact ofValue_sound _ _ _ h
  | func f => unfold eval at h; cases h; simp only [VR]; exact ⟨#[], #[], rfl, VRs.nil, VRs.nil⟩
  | global g => unfold eval at h; cases h
theorem evals_sound {θ : Th} {tm : Tr AVal} {nt : Nat} {ts : Array Value} (T : TR θ tm nt ts) : ∀ {xs : List Operand} {l : List AVal}, evals tm xs = some l → VRs θ l (xs.map (ρ ts))
  | [], l, h => by unfold evals at h; cases h; exact VRs.nil
  | x :: r, l, h => by
    unfold evals at h
    split at h
    · rename_i v hv
      split at h
      · rename_i vs hvs
        cases h
        exact VRs.cons (eval_sound T hv) (evals_sound T hvs)
      · cases h
    · cases h

/-! ### reading memory -/
section
variable {C : Cfg} {θ : Th} {lo base : Nat} {s : St} {w : World}

theorem cellsAt_sound {t : Tr AVal} {c : Array Value} {sh n : Nat} (hc : CellsR θ t c sh n) : ∀ (k off : Nat) (l : List AVal), off + k ≤ n → cellsAt t off k = some l →
    ∃ vs : List Value, vs.length = k ∧ VRs θ l vs ∧ ∀ j v, vs[j]? = some v → c[sh + (off + j)]? = some v
  | 0, off, l, _, h => by
    unfold cellsAt at h; cases h
    exact ⟨[], rfl, VRs.nil, by simp⟩
  | k + 1, off, l, hk, h => by
    unfold cellsAt at h
    split at h
    · rename_i a ha
      split at h
      · rename_i l' hl'
        cases h
        obtain ⟨vs, h1, h2, h3⟩ := cellsAt_sound hc k (off + 1) l' (by omega) hl'
        obtain ⟨a', v, g1, g2, g3⟩ := hc off (by omega)
        rw [ha] at g1; cases g1
        refine ⟨v :: vs, by simp [h1], VRs.cons g3 h2, fun j u hj => ?_⟩
        cases j with
        | zero => simp at hj; subst hj; simpa using g2
        | succ j =>
          have := h3 j u (by simpa using hj)
          rw [show off + (j + 1) = off + 1 + j by omega]
          exact this
      · cases h
    · cases h

theorem getRow_some {β : Type} {s : St} {b : Nat} {k : TypeId → Nat → Tr AVal → Option β} {r : β} (h : getRow s b none k = some r) :
    ∃ e n t, s.heap.get b = some (.row e n t) ∧ k e n t = some r := by
  unfold getRow at h
  split at h
  · rename_i e n t he; exact ⟨e, n, t, he, h⟩
  · cases h

theorem loadCells_sound (W : WR θ lo base s.heap w) {b off k : Nat} {l : List AVal} {L : Loc} (hθ : θ b = some L) (h : AM.loadCells s b off k = some l) :
    ∃ vs : List Value, vs.length = k ∧ VRs θ l vs ∧ ∀ j v, vs[j]? = some v → w.cell? ⟨L.cb, off + L.sh + j, none⟩ = some v := by
  unfold AM.loadCells at h
  split at h
  · cases h
    exact ⟨[], rfl, VRs.nil, by simp⟩
  · rename_i k
    obtain ⟨e, n, t, h1, h2⟩ := getRow_some h
    split at h2
    · rename_i hle
      have hle := of_ble hle
      obtain ⟨c, g1, g2, g3, g4⟩ := W.blk _ _ _ h1 hθ
      obtain ⟨vs, h3, h4, h5⟩ := cellsAt_sound g4 _ _ _ hle h2
      refine ⟨vs, h3, h4, fun j v hj => ?_⟩
      have := h5 j v hj
      simp only [World.cell?, g1]
      rw [show off + L.sh + j = L.sh + (off + j) by omega]
      simpa using this
    · cases h2

theorem loadVar_sound (hC : CfgOK C) (W : WR θ lo base s.heap w) {t : TypeId} {b off : Nat} {v : AVal} {L : Loc} (hθ : θ b = some L) (h : AM.loadVar C s t b off = some v) :
    ∃ v', (Go.loadVar t ⟨L.cb, off + L.sh, none⟩).run C.P w = .ok v' w ∧ VR θ v v' := by
  unfold AM.loadVar at h
  split at h
  · rename_i n ha hn
    split at h
    · rename_i l hl
      cases h
      obtain ⟨vs, h1, h2, h3⟩ := loadCells_sound W hθ hl
      have hl := run_loadCells_list (P := C.P) w ⟨L.cb, off + L.sh, none⟩ vs (fun j v hv => by rw [Addr.add_mid]; exact h3 j v hv)
      refine ⟨.agg vs.toArray, ?_, by simp only [VR]; exact ⟨_, rfl, by simpa using h2⟩⟩
      rw [h1] at hl
      simp [Go.loadVar, isAgg_sound hC ha, run_sizeOf hC hn, hl]
    · cases h
  · rename_i n ha hn
    split at h
    · rename_i v0 r hl
      cases h
      obtain ⟨vs, h1, h2, h3⟩ := loadCells_sound W hθ hl
      simp only [VRs] at h2
      obtain ⟨v', r', rfl, g1, _⟩ := h2
      have := h3 0 v' (by simp)
      refine ⟨v', ?_, g1⟩
      simp only [Nat.add_zero] at this
      simp [Go.loadVar, isAgg_sound hC ha, Go.load, Sem.run, this]
    · cases h
  · cases h
end
end Go.AM

namespace Go.AM
open Go.RowKit

/-- what an operation of the machine that only looks comes to -/
def Looks (P : Program) (θ : Th) (w : World) (x : Sem Next) (v : AVal) : Prop := ∃ v', x.run P w = .ok (.value v') w ∧ VR θ v v'

section
variable {C : Cfg} {θ : Th} {lo base : Nat} {s s' : St} {w : World} {tm : Tr AVal} {nt : Nat} {ts : Array Value} {v : AVal}

theorem val_some {a : Option AVal} {s s' : St} {v : AVal} (h : val a s = some (.val v s')) : a = some v ∧ s' = s := by
  unfold val at h
  split at h
  · cases h; exact ⟨rfl, rfl⟩
  · cases h

theorem opPick_sound (T : TR θ tm nt ts) {c a b : Operand} (h : opPick (eval tm c) (eval tm a) (eval tm b) s = some (.val v s')) :
    s' = s ∧ ∃ v', (do pure (.value (if ← asBool (ρ ts c) then ρ ts a else ρ ts b)) : Sem Next).run C.P w = .ok (.value v') w ∧ VR θ v v' := by
  unfold opPick at h
  split at h
  · rename_i hc
    split at h
    · rename_i ha
      cases h
      have h1 := eval_sound T hc; simp only [VR] at h1
      exact ⟨rfl, _, by simp [asBool, h1], eval_sound T ha⟩
    · cases h
  · rename_i hc
    split at h
    · rename_i ha
      cases h
      have h1 := eval_sound T hc; simp only [VR] at h1
      exact ⟨rfl, _, by simp [asBool, h1], eval_sound T ha⟩
    · cases h
  · cases h

theorem opLoad_sound (hC : CfgOK C) (W : WR θ lo base s.heap w) (T : TR θ tm nt ts) {t : TypeId} {a : Operand} (h : opLoad C t (eval tm a) s = some (.val v s')) :
    s' = s ∧ ∃ v', (Instr.loadAt t (ρ ts a)).run C.P w = .ok v' w ∧ VR θ v v' := by
  unfold opLoad at h
  split at h
  · rename_i b off ha
    obtain ⟨h1, rfl⟩ := val_some h
    have h2 := eval_sound T ha
    simp only [VR] at h2
    obtain ⟨L, g1, g2⟩ := h2
    obtain ⟨v', k1, k2⟩ := loadVar_sound hC W g1 h1
    exact ⟨rfl, v', by simp [Instr.loadAt, Instr.sureAddr, g2, k1], k2⟩
  · cases h

theorem opFieldAddr_sound (hC : CfgOK C) (T : TR θ tm nt ts) {t : TypeId} {x : Operand} {i : Nat} (h : opFieldAddr C t (eval tm x) i s = some (.val v s')) :
    s' = s ∧ ∃ v', (Instr.fieldAt t (ρ ts x) i).run C.P w = .ok v' w ∧ VR θ v v' := by
  unfold opFieldAddr at h
  split at h
  · rename_i fs b off hu hx
    split at h
    · rename_i f hf
      split at h
      · rename_i k hk
        cases h
        have h2 := eval_sound T hx
        simp only [VR] at h2
        obtain ⟨L, g1, g2⟩ := h2
        refine ⟨rfl, .pointer (some ⟨L.cb, off + L.sh + f.offset, none⟩), ?_, by simp only [VR]; exact ⟨L, g1, by congr 3; omega⟩⟩
        simp [Instr.fieldAt, run_underlying (under_sound hC hu), hf, Instr.sureAddr, g2, fieldPlace, run_sizeOf hC hk, Addr.add_mid]
      · cases h
    · cases h
  · cases h

theorem opIndexAddr_sound (hC : CfgOK C) (T : TR θ tm nt ts) {t : TypeId} {x i : Operand} (h : opIndexAddr C t (eval tm x) (eval tm i) s = some (.val v s')) :
    s' = s ∧ ∃ v', (Instr.indexAt t (ρ ts x) (ρ ts i)).run C.P w = .ok v' w ∧ VR θ v v' := by
  unfold opIndexAddr at h
  split at h
  · rename_i n e b off k i' hu hx hi
    split at h
    · rename_i z hlt hz
      cases h
      have hlt := of_blt hlt
      have h2 := eval_sound T hx
      simp only [VR] at h2
      obtain ⟨L, g1, g2⟩ := h2
      have h3 := eval_sound T hi
      simp only [VR] at h3
      refine ⟨rfl, .pointer (some ⟨L.cb, off + L.sh + i' * z, none⟩), ?_, by simp only [VR]; exact ⟨L, g1, by congr 3; omega⟩⟩
      have hlt' : ((i' : Nat) : Int) < (n : Int) := by omega
      simp [Instr.indexAt, h3, asIntOf, run_underlying (under_sound hC hu), Instr.sureAddr, g2, run_sizeOf hC hz, Addr.add_mid, hlt]
    · cases h
  · rename_i e b off n cp es k i' hu hx hi
    split at h
    · rename_i z hlt hz
      cases h
      have hlt := of_blt hlt
      have h2 := eval_sound T hx
      simp only [VR] at h2
      obtain ⟨a, cap, g2, hl1, hl2, h4⟩ := h2
      have h3 := eval_sound T hi
      simp only [VR] at h3
      obtain ⟨L, g1, h4 | ⟨g3, _⟩⟩ := h4
      · omega
      subst g3
      refine ⟨rfl, .pointer (some ⟨L.cb, off + L.sh + i' * z, none⟩), ?_, by simp only [VR]; exact ⟨L, g1, by congr 3; omega⟩⟩
      simp [Instr.indexAt, h3, asIntOf, run_underlying (under_sound hC hu), g2, run_sizeOf hC hz, Addr.add_mid, hlt]
    · cases h
  · cases h

theorem opExtract_sound (T : TR θ tm nt ts) {x : Operand} {i : Nat} (h : opExtract (eval tm x) i s = some (.val v s')) :
    s' = s ∧ ∃ v', (Instr.extract (ρ ts x) i).run C.P w = .ok v' w ∧ VR θ v v' := by
  unfold opExtract at h
  split at h
  · rename_i l hx
    split at h
    · rename_i v0 hv
      cases h
      have h2 := eval_sound T hx
      simp only [VR] at h2
      obtain ⟨cs, g1, g2⟩ := h2
      obtain ⟨v', k1, k2⟩ := g2.get _ _ hv
      refine ⟨rfl, v', ?_, k2⟩
      have : cs[i]? = some v' := by simpa using k1
      simp [Instr.extract, g1, this]
    · cases h
  · cases h

theorem opNil_sound (T : TR θ tm nt ts) {o : Oper} {x : Operand} (ho : o.op = .nilCheck x) (h : opNil (eval tm x) s = some (.val v s')) :
    s' = s ∧ ∃ v', (execOp (ρ ts) o).run C.P w = .ok (.value v') w ∧ VR θ v v' := by
  unfold opNil at h
  split at h
  · rename_i b off hx
    cases h
    have h2 := eval_sound T hx
    have h2' := h2
    simp only [VR] at h2
    obtain ⟨L, g1, g2⟩ := h2
    exact ⟨rfl, ρ ts x, by simp [execOp, ho, g2], h2'⟩
  · rename_i f a b hx
    cases h
    have h2 := eval_sound T hx
    have h2' := h2
    simp only [VR] at h2
    obtain ⟨a', b', g2, _⟩ := h2
    exact ⟨rfl, ρ ts x, by simp [execOp, ho, g2], h2'⟩
  · rename_i l hx
    cases h
    have h2 := eval_sound T hx
    have h2' := h2
    simp only [VR] at h2
    obtain ⟨L, g1, g2⟩ := h2
    exact ⟨rfl, ρ ts x, by simp [execOp, ho, g2], h2'⟩
  · cases h

theorem opConvert_sound (hC : CfgOK C) (T : TR θ tm nt ts) {a b : TypeId} {x : Operand} (h : opConvert C a b (eval tm x) s = some (.val v s')) :
    s' = s ∧ ∃ v', (Go.convert a b (ρ ts x)).run C.P w = .ok v' w ∧ VR θ v v' := by
  unfold opConvert at h
  split at h
  · rename_i d k k' n hd0 hu hx
    cases h
    have h2 := eval_sound T hx
    simp only [VR] at h2
    have hd := under_sound hC hd0
    refine ⟨rfl, .int k (k.wrap n), ?_, by simp only [VR]⟩
    cases d <;> simp [Go.convert, run_underlying hd, run_underlying (under_sound hC hu), h2, Conv.intToInt]
  · cases h

theorem opUn_sound (T : TR θ tm nt ts) {op : UnOp} {x : Operand} (h : opUn op (eval tm x) s = some (.val v s')) :
    s' = s ∧ ∃ v', (Op.unary op (ρ ts x)).run C.P w = .ok v' w ∧ VR θ v v' := by
  unfold opUn at h
  split at h
  · rename_i b hx
    cases h
    have h2 := eval_sound T hx
    simp only [VR] at h2
    exact ⟨rfl, .bool (!b), by simp [Op.unary, h2], by simp only [VR]⟩
  · rename_i k n hx
    cases h
    have h2 := eval_sound T hx
    simp only [VR] at h2
    exact ⟨rfl, .int k (k.wrap (0 - n)), by simp [Op.unary, h2, Op.intArith], by simp only [VR]⟩
  · cases h

theorem opMakeFunc_sound (T : TR θ tm nt ts) {fn : Fn} {a b : Array Operand} (h : opMakeFunc fn a b tm s = some (.val v s')) :
    s' = s ∧ ∃ v', (Instr.makeFunc fn (a.map (ρ ts)) (b.map (ρ ts))).run C.P w = .ok v' w ∧ VR θ v v' := by
  unfold opMakeFunc at h
  split at h
  · rename_i f la lb ha hb
    cases h
    refine ⟨rfl, .func (.func f) (a.map (ρ ts)) (b.map (ρ ts)), by simp [Instr.makeFunc], ?_⟩
    simp only [VR]
    exact ⟨_, _, rfl, by simpa using evals_sound T ha, by simpa using evals_sound T hb⟩
  · cases h

theorem toInt_ofNat {i y : Nat} (h : i ≤ y) : (0 : Int) ≤ (i : Int) ∧ (i : Int) ≤ (y : Int) := by omega
theorem bnd_sound {x : Option Operand} {a : Option AVal} {d y r : Nat} (hx : ∀ v, a = some v → ∃ o, x = some o ∧ VR θ v (ρ ts o)) (hn : a = none → x = none) (h : bnd a d y = some r) :
    (a = none ∧ x = none ∧ r = d) ∨ ∃ o k, x = some o ∧ ρ ts o = .int k (r : Int) ∧ r ≤ y ∧ ∃ v, a = some v := by
  unfold bnd at h
  split at h
  · cases h; exact .inl ⟨rfl, hn rfl, rfl⟩
  · rename_i k i
    split at h
    · rename_i hle
      cases h
      obtain ⟨o, h1, h2⟩ := hx _ rfl
      simp only [VR] at h2
      exact .inr ⟨o, k, h1, h2, of_ble hle, _, rfl⟩
    · cases h
  · cases h
theorem run_sliceBound {P : Program} (w : World) {k : IntKind} {r y : Nat} {code : BoundsCode} (h : r ≤ y) : (Instr.sliceBound (.int k (r : Int)) y code).run P w = .ok r w := by
  have := toInt_ofNat h
  simp [Instr.sliceBound, asIntOf, this]
theorem run_sliceBounds {P : Program} (w : World) {len cap l h m : Nat} {isS : Bool} {lo hi mx : Option Value}
    (hm : (mx = none ∧ m = cap) ∨ ∃ k, mx = some (.int k (m : Int)) ∧ m ≤ cap) (hh : (hi = none ∧ mx = none ∧ h = len) ∨ ∃ k, hi = some (.int k (h : Int)) ∧ h ≤ m) (hl : (lo = none ∧ l = 0) ∨ ∃ k, lo = some (.int k (l : Int)) ∧ l ≤ h) :
    (Instr.sliceBounds isS len cap lo hi mx).run P w = .ok (l, h, m) w := by
  unfold Instr.sliceBounds
  rcases hm with ⟨rfl, rfl⟩ | ⟨k, rfl, hm⟩ <;> rcases hh with ⟨rfl, h1, rfl⟩ | ⟨k2, rfl, hh⟩ <;> rcases hl with ⟨rfl, rfl⟩ | ⟨k3, rfl, hl⟩ <;>
    simp_all [run_sliceBound]

theorem opt_some {x : Option Operand} {k : Option AVal → Res} {r : Out} (h : opt tm x none k = some r) : ∃ a, k a = some r ∧ (∀ v, a = some v → ∃ o, x = some o ∧ eval tm o = some v) ∧ (a = none → x = none) := by
  unfold opt at h
  split at h
  · exact ⟨none, h, by simp, fun _ => rfl⟩
  · split at h
    · rename_i o v hv
      exact ⟨some v, h, fun u hu => ⟨_, rfl, by cases hu; exact hv⟩, by simp⟩
    · cases h

theorem str_cut (s : ByteArray) (l : List Nat) (a h : Nat) (hl : s.data.toList.map UInt8.toNat = l) : (s.extract a h).data.toList.map UInt8.toNat = (l.drop a).take (h - a) := by
  subst hl
  have : (s.extract a h).data.toList = (s.data.toList.drop a).take (h - a) := by
    rw [ByteArray.data_extract, Array.toList_extract]
  rw [this, List.map_take, List.map_drop]

theorem opSlice_sound (hC : CfgOK C) (T : TR θ tm nt ts) {t : TypeId} {x : Operand} {lo hi mx : Option Operand} (h : opSlice C t (eval tm x) lo hi mx tm s = some (.val v s')) :
    s' = s ∧ ∃ v', (Instr.sliceAt t (ρ ts x) (lo.map (ρ ts)) (hi.map (ρ ts)) (mx.map (ρ ts))).run C.P w = .ok v' w ∧ VR θ v v' := by
  unfold opSlice at h
  obtain ⟨al, h, hl1, hl2⟩ := opt_some h
  obtain ⟨ah, h, hh1, hh2⟩ := opt_some h
  obtain ⟨am, h, hm1, hm2⟩ := opt_some h
  have hl1' : ∀ v, al = some v → ∃ o, lo = some o ∧ VR θ v (ρ ts o) := fun v hv => let ⟨o, a, b⟩ := hl1 v hv; ⟨o, a, eval_sound T b⟩
  have hh1' : ∀ v, ah = some v → ∃ o, hi = some o ∧ VR θ v (ρ ts o) := fun v hv => let ⟨o, a, b⟩ := hh1 v hv; ⟨o, a, eval_sound T b⟩
  have hm1' : ∀ v, am = some v → ∃ o, mx = some o ∧ VR θ v (ρ ts o) := fun v hv => let ⟨o, a, b⟩ := hm1 v hv; ⟨o, a, eval_sound T b⟩
  have bl : ∀ {y r}, bnd al 0 y = some r → (lo.map (ρ ts) = none ∧ r = 0) ∨ ∃ k, lo.map (ρ ts) = some (.int k (r : Int)) ∧ r ≤ y := fun hb => by
    rcases bnd_sound hl1' hl2 hb with ⟨_, h2, h3⟩ | ⟨o, k, h2, h3, h4, _⟩
    · subst h2; exact .inl ⟨rfl, h3⟩
    · subst h2; exact .inr ⟨k, by simp [h3], h4⟩
  split at h
  · cases h
  rename_i hnot
  have hmh : ah = none → am = none := by
    intro h1
    cases am with
    | none => rfl
    | some v => exact absurd h1 (hnot v rfl)
  have bh : ∀ {d y r}, bnd ah d y = some r → (hi.map (ρ ts) = none ∧ mx.map (ρ ts) = none ∧ r = d) ∨ ∃ k, hi.map (ρ ts) = some (.int k (r : Int)) ∧ r ≤ y := fun hb => by
    rcases bnd_sound hh1' hh2 hb with ⟨h1, h2, h3⟩ | ⟨o, k, h2, h3, h4, _⟩
    · refine .inl ⟨by rw [h2]; rfl, by rw [hm2 (hmh h1)]; rfl, h3⟩
    · exact .inr ⟨k, by simp [h2, h3], h4⟩
  have bm : ∀ {y r}, bnd am y y = some r → (mx.map (ρ ts) = none ∧ r = y) ∨ ∃ k, mx.map (ρ ts) = some (.int k (r : Int)) ∧ r ≤ y := fun hb => by
    rcases bnd_sound hm1' hm2 hb with ⟨h1, h2, h3⟩ | ⟨o, k, h2, h3, h4, _⟩
    · exact .inl ⟨by rw [h2]; rfl, h3⟩
    · exact .inr ⟨k, by simp [h2, h3], h4⟩
  clear hl1 hh1 hm1 hl1' hh1' hm1' hl2 hh2
  generalize lo.map (ρ ts) = lo' at *
  generalize hi.map (ρ ts) = hi' at *
  split at h
  · -- a string
    rename_i l hu hx
    have h2 := eval_sound T hx
    simp only [VR] at h2
    obtain ⟨str, g1, g2⟩ := h2
    have hsz : str.size = l.length := by rw [← g2, List.length_map, Array.length_toList]; rfl
    split at h
    · cases h
    · split at h
      · rename_i hh hbh
        split at h
        · rename_i aa hba
          cases h
          have hmn : mx = none := hm2 rfl
          subst hmn
          refine ⟨rfl, .string (str.extract aa hh), ?_, by simp only [VR]; exact ⟨_, rfl, str_cut _ _ _ _ g2⟩⟩
          have := run_sliceBounds (P := C.P) w (len := str.size) (cap := str.size) (l := aa) (h := hh) (m := str.size) (isS := false) (lo := lo') (hi := hi') (mx := none) (.inl ⟨rfl, rfl⟩)
            (by rw [hsz]; rcases bh hbh with ⟨q1, q2, q3⟩ | q; · exact .inl ⟨q1, rfl, q3⟩
                · exact .inr q) (bl hba)
          simp only [Option.map_none, Instr.sliceAt, Instr.slice, Sem.run_bind, run_underlying (under_sound hC hu), Result.andThen_ok, g1]
          simp [this]
        · cases h
      · cases h
  · -- a nil slice
    rename_i e hu hx
    have h2 := eval_sound T hx
    simp only [VR] at h2
    split at h
    · rename_i mm hbm
      split at hbm
      · rename_i z hz
        split at h
        · rename_i hh hbh
          split at h
          · rename_i aa hba
            cases h
            have hm0 : mm = 0 := by rcases bm hbm with ⟨_, q⟩ | ⟨_, _, q⟩ <;> omega
            have hh0 : hh = 0 := by rcases bh hbh with ⟨_, _, q⟩ | ⟨_, _, q⟩ <;> omega
            have ha0 : aa = 0 := by rcases bl hba with ⟨_, q⟩ | ⟨_, _, q⟩ <;> omega
            subst hm0 hh0 ha0
            have := run_sliceBounds (P := C.P) w (len := 0) (cap := 0) (l := 0) (h := 0) (m := 0) (isS := true) (lo := lo') (hi := hi') (mx := mx.map (ρ ts)) (bm hbm) (bh hbh) (bl hba)
            refine ⟨rfl, .slice none 0 0, ?_, by simp only [VR]⟩
            simp [Instr.sliceAt, Instr.slice, run_underlying (under_sound hC hu), h2, this, run_sizeOf hC hz]
          · cases h
        · cases h
      · cases hbm
    · cases h
  · -- a slice
    rename_i e b off n cp es hu hx
    have h2 := eval_sound T hx
    simp only [VR] at h2
    obtain ⟨a0, cap, g2, hl1, hl2, h4⟩ := h2
    split at h
    · rename_i mm hbm
      split at hbm
      · rename_i z hz
        split at hbm
        · rename_i hze
          have hze := of_nbeq hze
          subst hze
          split at h
          · rename_i hh hbh
            split at h
            · rename_i aa hba
              cases h
              have hal : aa ≤ hh := by rcases bl hba with ⟨_, q⟩ | ⟨_, _, q⟩ <;> omega
              -- the real third bound: the capacity where none is named
              obtain ⟨M, hM1, hM2, hM3⟩ : ∃ M, ((mx.map (ρ ts) = none ∧ M = cap) ∨ ∃ k, mx.map (ρ ts) = some (.int k (M : Int)) ∧ M ≤ cap) ∧ mm ≤ M ∧ M ≤ cap := by
                rcases bm hbm with ⟨q1, q2⟩ | ⟨k, q1, q2⟩
                · exact ⟨cap, .inl ⟨q1, rfl⟩, by omega, Nat.le_refl _⟩
                · exact ⟨mm, .inr ⟨k, q1, by omega⟩, Nat.le_refl _, by omega⟩
              have hH : (hi' = none ∧ mx.map (ρ ts) = none ∧ hh = n) ∨ ∃ k, hi' = some (.int k (hh : Int)) ∧ hh ≤ M := by
                rcases bh hbh with q | ⟨k, q1, q2⟩
                · exact .inl q
                · exact .inr ⟨k, q1, by omega⟩
              have hhm : hh ≤ mm := by
                rcases bh hbh with ⟨q1, q2, q3⟩ | ⟨k, q1, q2⟩
                · rcases bm hbm with ⟨q4, q5⟩ | ⟨k, q4, q5⟩
                  · omega
                  · rw [q2] at q4; cases q4
                · exact q2
              have := run_sliceBounds (P := C.P) w (len := n) (cap := cap) (l := aa) (h := hh) (m := M) (isS := true) (lo := lo') (hi := hi') (mx := mx.map (ρ ts)) hM1 hH (bl hba)
              by_cases hc : M = aa
              · have hc' : hh - aa = 0 := by omega
                refine ⟨rfl, .slice (some a0) (hh - aa) (M - aa), ?_, ?_⟩
                · simp [Instr.sliceAt, Instr.slice, run_underlying (under_sound hC hu), g2, this, run_sizeOf hC hz, hc]
                · simp only [VR]
                  obtain ⟨L, g1, _⟩ := h4
                  exact ⟨a0, M - aa, rfl, by omega, by omega, L, g1, .inl (by omega)⟩
              · obtain ⟨L, g1, h4 | ⟨g3, g4⟩⟩ := h4
                · omega
                · subst g3
                  refine ⟨rfl, .slice (some ⟨L.cb, off + L.sh + aa * z, none⟩) (hh - aa) (M - aa), ?_, ?_⟩
                  · simp [Instr.sliceAt, Instr.slice, run_underlying (under_sound hC hu), g2, this, run_sizeOf hC hz, hc, Addr.add_mid]
                  · simp only [VR]
                    refine ⟨_, M - aa, rfl, by omega, by omega, L, g1, .inr ⟨by congr 1; omega, ?_⟩⟩
                    have : (M - aa) * z + aa * z ≤ cap * z := by rw [← Nat.add_mul]; exact Nat.mul_le_mul_right _ (by omega)
                    omega
            · cases h
          · cases h
        · cases hbm
      · cases hbm
    · cases h
  · cases h
end
end Go.AM

namespace Go.AM
open Go.RowKit
section
variable {C : Cfg} {θ : Th} {lo base : Nat} {s s' : St} {w : World} {tm : Tr AVal} {nt : Nat} {ts : Array Value} {v : AVal}

theorem part_sound (hC : CfgOK C) {t : TypeId} {l : List AVal} {off : Nat} {a : AVal} {cs : Array Value} (hl : VRs θ l cs.toList) (h : AM.part C t l off = some a) :
    ∃ v', (Go.part t cs off).run C.P w = .ok v' w ∧ VR θ a v' := by
  unfold AM.part at h
  split at h
  · rename_i n ha hn
    cases h
    refine ⟨.agg (cs.extract off (off + n)), ?_, ?_⟩
    · simp [Go.part, isAgg_sound hC ha, run_sizeOf hC hn]
    · simp only [VR]
      refine ⟨_, rfl, ?_⟩
      have : (cs.extract off (off + n)).toList = (cs.toList.drop off).take n := by simp
      rw [this]
      exact (hl.drop off).take n
  · rename_i n ha hn
    obtain ⟨v', h1, h2⟩ := hl.get _ _ h
    refine ⟨v', ?_, h2⟩
    have : cs[off]? = some v' := by simpa using h1
    simp [Go.part, isAgg_sound hC ha, this]
  · cases h

theorem opIndex_sound (hC : CfgOK C) (T : TR θ tm nt ts) {t : TypeId} {x i : Operand} (h : opIndex C t (eval tm x) (eval tm i) s = some (.val v s')) :
    s' = s ∧ ∃ v', (Instr.index t (ρ ts x) (ρ ts i)).run C.P w = .ok v' w ∧ VR θ v v' := by
  unfold opIndex at h
  split at h
  · rename_i n e l k i' hu hx hi
    split at h
    · rename_i z hlt hz
      obtain ⟨h1, rfl⟩ := val_some h
      have hlt := of_blt hlt
      have h2 := eval_sound T hx
      simp only [VR] at h2
      obtain ⟨cs, g1, g2⟩ := h2
      have h3 := eval_sound T hi
      simp only [VR] at h3
      obtain ⟨v', k1, k2⟩ := part_sound (w := w) hC g2 h1
      refine ⟨rfl, v', ?_, k2⟩
      simp [Instr.index, h3, asIntOf, run_underlying (under_sound hC hu), g1, run_sizeOf hC hz, hlt, k1]
    · cases h
  · rename_i l k i' hu hx hi
    split at h
    · rename_i c hc
      cases h
      have h2 := eval_sound T hx
      simp only [VR] at h2
      obtain ⟨str, g1, g2⟩ := h2
      have h3 := eval_sound T hi
      simp only [VR] at h3
      subst g2
      rw [List.getElem?_map] at hc
      cases hb : str.data.toList[i']? with
      | none => rw [hb] at hc; cases hc
      | some b =>
        rw [hb] at hc
        simp at hc
        subst hc
        refine ⟨rfl, .int .u8 (b.toNat : Int), ?_, by simp only [VR]; rfl⟩
        have hlt : i' < str.data.toList.length := by
          rcases Nat.lt_or_ge i' str.data.toList.length with q | q
          · exact q
          · rw [List.getElem?_eq_none q] at hb; cases hb
        have hsz : i' < str.size := by rw [Array.length_toList] at hlt; exact hlt
        have hget : str[i']? = some b := by
          rw [List.getElem?_eq_getElem hlt] at hb
          have hb' : str.data.toList[i'] = b := by simpa using hb
          rw [getElem?_pos str i' hsz]
          exact congrArg some (by rw [← hb']; rfl)
        simp [Instr.index, h3, asIntOf, run_underlying (under_sound hC hu), g1, hget]
    · cases h
  · cases h

theorem lenOf_str {str : ByteArray} {l : List Nat} (h : str.data.toList.map UInt8.toNat = l) : l.length = str.size := by
  rw [← h, List.length_map, Array.length_toList]; rfl

theorem ERs.length {θ : Th} : ∀ {l : List (AVal × AVal × Nat)} {es : List MapEntry}, ERs θ l es → l.length = es.length
  | [], _, h => by cases h; rfl
  | _ :: l, _, ⟨e, r, h1, _, h3⟩ => by subst h1; simp [ERs.length h3]

theorem opLen_sound (hC : CfgOK C) (W : WR θ lo base s.heap w) {ats : Array TypeId} {ty : TypeId} {x : AVal} {x' : Value} (hx : VR θ x x') (h : opLen C ats[0]? s x = some (.val v s')) :
    s' = s ∧ ∃ v', (Builtin.len_ ats ty #[x']).run C.P w = .ok v' w ∧ VR θ v v' := by
  unfold opLen at h
  split at h
  · rename_i t0 ht
    split at h
    · rename_i hu
      split at h
      · cases h
        simp only [VR] at hx
        obtain ⟨str, rfl, h2⟩ := hx
        refine ⟨rfl, .int .i64 str.size, by simp [Builtin.len_, ht, run_underlying (under_sound hC hu), goInt], by simp only [VR]; rw [lenOf_str h2]; rfl⟩
      · cases h
    · rename_i n e hu
      cases h
      refine ⟨rfl, .int .i64 n, by simp [Builtin.len_, ht, run_underlying (under_sound hC hu), goInt], by simp only [VR]; rfl⟩
    · rename_i e hu
      split at h
      · cases h
        simp only [VR] at hx
        subst hx
        refine ⟨rfl, .int .i64 0, by simp [Builtin.len_, ht, run_underlying (under_sound hC hu), goInt], by simp only [VR]; rfl⟩
      · rename_i b off n cp es
        cases h
        simp only [VR] at hx
        obtain ⟨a, cap, rfl, _⟩ := hx
        refine ⟨rfl, .int .i64 n, by simp [Builtin.len_, ht, run_underlying (under_sound hC hu), goInt], by simp only [VR]; rfl⟩
      · cases h
    · rename_i kt et hu
      split at h
      · cases h
        simp only [VR] at hx
        subst hx
        refine ⟨rfl, .int .i64 0, by simp [Builtin.len_, ht, run_underlying (under_sound hC hu), goInt], by simp only [VR]; rfl⟩
      · split at h
        · rename_i es clock hb
          cases h
          simp only [VR] at hx
          obtain ⟨L, g1, rfl⟩ := hx
          obtain ⟨es', k1, k2⟩ := W.blk _ _ _ hb g1
          refine ⟨rfl, .int .i64 es'.size, ?_, ?_⟩
          · simp [Builtin.len_, ht, run_underlying (under_sound hC hu), goInt, getObj, Sem.run, k1]
          · simp only [VR]; rw [k2.length, Array.length_toList]; rfl
        · cases h
      · cases h
    · cases h
  · cases h

theorem opMin_sound {x y : AVal} {x' y' : Value} (hx : VR θ x x') (hy : VR θ y y') {ats : Array TypeId} {ty : TypeId} (h : opMin x y false = some v) :
    ∃ v', (Builtin.min_ ats ty #[x', y']).run C.P w = .ok v' w ∧ VR θ v v' := by
  unfold opMin at h
  split at h
  · rename_i k a l b
    simp only [VR] at hx hy
    subst hx hy
    simp only [Option.some.injEq] at h
    subst h
    refine ⟨.int k (if b < a then b else a), by simp [Builtin.min_, Builtin.min2], ?_⟩
    simp only [VR]
    by_cases h : b < a <;> simp [h]
  · cases h
theorem opMax_sound {x y : AVal} {x' y' : Value} (hx : VR θ x x') (hy : VR θ y y') {ats : Array TypeId} {ty : TypeId} (h : opMin x y true = some v) :
    ∃ v', (Builtin.max_ ats ty #[x', y']).run C.P w = .ok v' w ∧ VR θ v v' := by
  unfold opMin at h
  split at h
  · rename_i k a l b
    simp only [VR] at hx hy
    subst hx hy
    simp only [Option.some.injEq] at h
    subst h
    refine ⟨.int k (if b > a then b else a), by simp [Builtin.max_, Builtin.max2], ?_⟩
    simp only [VR]
    by_cases h : a < b <;> simp [h]
  · cases h
end
end Go.AM

namespace Go.AM
open Go.RowKit

theorem kindBeq_eq {a b : IntKind} (h : kindBeq a b = true) : a = b := by cases a <;> cases b <;> first | rfl | cases h
theorem intBeq_eq (a b : Int) : intBeq a b = (a == b) := by
  cases a with
  | ofNat m => cases b with
    | ofNat n =>
      show Nat.beq m n = decide (Int.ofNat m = Int.ofNat n)
      by_cases h : m = n
      · subst h; simp
      · rw [nbeq_false h]; symm; rw [decide_eq_false_iff_not]; intro e; exact h (Int.ofNat.inj e)
    | negSucc n => rfl
  | negSucc m => cases b with
    | ofNat n => rfl
    | negSucc n =>
      show Nat.beq m n = decide (Int.negSucc m = Int.negSucc n)
      by_cases h : m = n
      · subst h; simp
      · rw [nbeq_false h]; simp [h]
theorem listBeq_nat (a b : List Nat) : listBeq Nat.beq a b = (a == b) := by
  induction a generalizing b with
  | nil => cases b <;> rfl
  | cons x r ih =>
    cases b with
    | nil => rfl
    | cons y q =>
      unfold listBeq
      by_cases h : x = y
      · subst h; simp [ih]
      · rw [nbeq_false h]; simp [h]
theorem map_toNat_beq (a b : List UInt8) : (a.map UInt8.toNat == b.map UInt8.toNat) = (a == b) := by
  induction a generalizing b with
  | nil => cases b <;> rfl
  | cons x r ih =>
    cases b with
    | nil => rfl
    | cons y q =>
      show (x.toNat == y.toNat && (r.map UInt8.toNat == q.map UInt8.toNat)) = (x == y && (r == q))
      rw [ih]
      by_cases h : x = y
      · subst h; simp
      · have h1 : (x.toNat == y.toNat) = false := by
          rw [beq_eq_false_iff_ne]; exact fun e => h (UInt8.toNat.inj e)
        have h2 : (x == y) = false := by rw [beq_eq_false_iff_ne]; exact h
        rw [h1, h2]
theorem ltStr_map : ∀ (x y : List UInt8), ltStr (x.map UInt8.toNat) (y.map UInt8.toNat) = Op.bytesLess x y
  | [], [] => rfl
  | _ :: _, [] => rfl
  | [], _ :: _ => rfl
  | a :: x, b :: y => by
    simp only [List.map_cons, ltStr, Op.bytesLess, ltStr_map x y]
    have e1 : Nat.blt a.toNat b.toNat = decide (a < b) := by
      rw [Bool.eq_iff_iff]
      simp only [decide_eq_true_eq, UInt8.lt_iff_toNat_lt]
      exact ⟨of_blt, fun h => Nat.ble_eq_true_of_le h⟩
    have e2 : Nat.beq a.toNat b.toNat = (a == b) := by
      rw [Bool.eq_iff_iff]
      simp only [beq_iff_eq]
      exact ⟨fun h => UInt8.toNat_inj.1 (of_nbeq h), fun h => by rw [h]; exact Nat.beq_refl _⟩
    rw [e1, e2]
theorem str_less {a b : ByteArray} {l m : List Nat} (ha : a.data.toList.map UInt8.toNat = l) (hb : b.data.toList.map UInt8.toNat = m) : ltStr l m = Op.bytesLess a.toList b.toList := by
  rw [← ha, ← hb, ltStr_map, ByteArray.toList_eq, ByteArray.toList_eq]
theorem str_beq {a b : ByteArray} {l m : List Nat} (ha : a.data.toList.map UInt8.toNat = l) (hb : b.data.toList.map UInt8.toNat = m) : (a == b) = listBeq Nat.beq l m := by
  rw [listBeq_nat, ← ha, ← hb, map_toNat_beq, beq_toListBytes, ByteArray.toList_eq, ByteArray.toList_eq]

section
variable {C : Cfg} {θ : Th} {lo base : Nat} {s s' : St} {w : World} {tm : Tr AVal} {nt : Nat} {ts : Array Value} {v : AVal}

theorem equalIn_sound (hC : CfgOK C) : ∀ (n D : Nat) (t : TypeId) (a b : AVal) (x y : Value) (r : Bool), n ≤ D → VR θ a x → VR θ b y → equalIn C n t a b = some r →
    (Op.equalIn D t x y).run C.P w = .ok r w
  | 0, _, _, _, _, _, _, _, _, _, _, h => by simp [equalIn] at h
  | n + 1, 0, _, _, _, _, _, _, hD, _, _, _ => by omega
  | n + 1, D + 1, t, a, b, x, y, r, hD, ha, hb, h => by
    unfold equalIn at h
    split at h
    · rename_i p q hu
      simp only [VR] at ha hb; subst ha hb; cases h
      simp [Op.equalIn, run_underlying (under_sound hC hu)]
    · rename_i k p l q hu
      simp only [VR] at ha hb; subst ha hb
      split at h
      · rename_i hk
        have hk := kindBeq_eq hk; subst hk; cases h
        simp [Op.equalIn, run_underlying (under_sound hC hu), intBeq_eq]
      · cases h
    · rename_i p q hu
      simp only [VR] at ha hb
      obtain ⟨s1, rfl, h1⟩ := ha
      obtain ⟨s2, rfl, h2⟩ := hb
      cases h
      simp [Op.equalIn, run_underlying (under_sound hC hu), str_beq h1 h2]
    · rename_i hu
      simp only [VR] at ha hb; subst ha hb; cases h
      simp [Op.equalIn, run_underlying (under_sound hC hu)]
    · rename_i hu
      simp only [VR] at ha hb; obtain ⟨L, _, rfl⟩ := hb; subst ha; cases h
      simp [Op.equalIn, run_underlying (under_sound hC hu)]
    · rename_i hu
      simp only [VR] at ha hb; obtain ⟨L, _, rfl⟩ := ha; subst hb; cases h
      simp [Op.equalIn, run_underlying (under_sound hC hu)]
    · rename_i hu
      simp only [VR] at ha hb; subst ha hb; cases h
      simp [Op.equalIn, run_underlying (under_sound hC hu)]
    · rename_i hu
      simp only [VR] at ha hb; obtain ⟨x', rfl, _⟩ := hb; subst ha; cases h
      simp [Op.equalIn, run_underlying (under_sound hC hu)]
    · rename_i hu
      simp only [VR] at ha hb; obtain ⟨x', rfl, _⟩ := ha; subst hb; cases h
      simp [Op.equalIn, run_underlying (under_sound hC hu)]
    · rename_i fs xs ys hu
      split at h
      · rename_i hp
        obtain ⟨hp1, hp2⟩ := hC.plain _ hp
        simp only [VR] at ha hb
        obtain ⟨cx, rfl, h1⟩ := ha
        obtain ⟨cy, rfl, h2⟩ := hb
        have hu' := under_sound hC hu
        have hfs : C.P.fieldsOf t = fs := by simp [Program.fieldsOf, hu']
        rw [run_equalIn_struct w D t cx cy (by rw [hfs]; exact hu') hp1, hfs]
        clear hp hp1 hp2 hu hu' hfs
        generalize fs.toList = l at h ⊢
        induction l with
        | nil => simp at h; subst h; simp [Op.eqFields]
        | cons f r ih =>
          simp only [List.foldr_cons] at h
          split at h
          · rename_i hn
            have hn : f.name = "_" := by simpa using hn
            simp only [Op.eqFields, hn, ne_eq, not_true_eq_false, if_false]
            exact ih h
          · rename_i hn
            have hn : ¬ f.name = "_" := by simpa using hn
            split at h
            · rename_i a1 b1 hpa hpb
              obtain ⟨u1, k1, k2⟩ := part_sound (w := w) hC h1 hpa
              obtain ⟨u2, k3, k4⟩ := part_sound (w := w) hC h2 hpb
              split at h
              · rename_i he
                have := equalIn_sound hC n D f.type a1 b1 u1 u2 true (by omega) k2 k4 he
                simp only [Op.eqFields, ne_eq, hn, not_false_eq_true, if_true, Sem.run_bind, k1, Result.andThen_ok, k3, this]
                simpa using ih h
              · rename_i he
                have := equalIn_sound hC n D f.type a1 b1 u1 u2 false (by omega) k2 k4 he
                cases h
                simp [Op.eqFields, ne_eq, hn, k1, k3, this]
              · cases h
            · cases h
      · cases h
    · rename_i hu
      simp only [VR] at ha hb; subst ha hb; cases h
      simp [Op.equalIn, run_underlying (under_sound hC hu)]
    · rename_i hu
      simp only [VR] at ha hb; obtain ⟨a', cap, rfl, _⟩ := hb; subst ha; cases h
      simp [Op.equalIn, run_underlying (under_sound hC hu)]
    · rename_i hu
      simp only [VR] at ha hb; obtain ⟨a', cap, rfl, _⟩ := ha; subst hb; cases h
      simp [Op.equalIn, run_underlying (under_sound hC hu)]
    · rename_i hu
      simp only [VR] at ha hb; subst ha hb; cases h
      simp [Op.equalIn, run_underlying (under_sound hC hu)]
    · rename_i hu
      simp only [VR] at ha hb; obtain ⟨L, _, rfl⟩ := hb; subst ha; cases h
      simp [Op.equalIn, run_underlying (under_sound hC hu)]
    · rename_i hu
      simp only [VR] at ha hb; obtain ⟨L, _, rfl⟩ := ha; subst hb; cases h
      simp [Op.equalIn, run_underlying (under_sound hC hu)]
    · rename_i hu
      simp only [VR] at ha hb; subst ha hb; cases h
      simp [Op.equalIn, run_underlying (under_sound hC hu)]
    · rename_i hu
      simp only [VR] at ha hb; obtain ⟨a', b', rfl, _⟩ := hb; subst ha; cases h
      simp [Op.equalIn, run_underlying (under_sound hC hu)]
    · rename_i hu
      simp only [VR] at ha hb; obtain ⟨a', b', rfl, _⟩ := ha; subst hb; cases h
      simp [Op.equalIn, run_underlying (under_sound hC hu)]
    · cases h
termination_by n => n

theorem arith_sound {op : BinOp} {t : TypeId} {k : IntKind} {a b : Int} (h : arith op k a b = some v) : ∃ v', (Go.binOp op t (.int k a) (.int k b)).run C.P w = .ok v' w ∧ VR θ v v' := by
  unfold arith at h
  cases op <;> simp only at h <;> try (cases h; done)
  case quo =>
    split at h
    · cases h
    · rename_i hb
      rw [intBeq_eq] at hb
      have hb : ¬ b = 0 := by simpa using hb
      cases h
      exact ⟨.int k (k.wrap (a.tdiv b)), by simp [Go.binOp, Op.intDiv, hb], by simp only [VR]⟩
  case rem =>
    split at h
    · cases h
    · rename_i hb
      rw [intBeq_eq] at hb
      have hb : ¬ b = 0 := by simpa using hb
      cases h
      exact ⟨.int k (a.tmod b), by simp [Go.binOp, Op.intDiv, hb], by simp only [VR]⟩
  case add => cases h; exact ⟨.int k (k.wrap (a + b)), by simp [Go.binOp, Op.intArith], by simp only [VR]⟩
  case sub => cases h; exact ⟨.int k (k.wrap (a - b)), by simp [Go.binOp, Op.intArith], by simp only [VR]⟩
  case mul => cases h; exact ⟨.int k (k.wrap (a * b)), by simp [Go.binOp, Op.intArith], by simp only [VR]⟩
  case eql => cases h; exact ⟨.bool (a == b), by simp [Go.binOp, Op.intCmp], by simp only [VR, intBeq_eq]⟩
  case neq => cases h; exact ⟨.bool (a != b), by simp [Go.binOp, Op.intCmp], by simp only [VR, intBeq_eq]; rfl⟩
  case lss => cases h; exact ⟨.bool (decide (a < b)), by simp [Go.binOp, Op.intCmp], by simp only [VR]⟩
  case leq => cases h; exact ⟨.bool (decide (a ≤ b)), by simp [Go.binOp, Op.intCmp], by simp only [VR]⟩
  case gtr => cases h; exact ⟨.bool (decide (b < a)), by simp [Go.binOp, Op.intCmp], by simp only [VR]⟩
  case geq => cases h; exact ⟨.bool (decide (b ≤ a)), by simp [Go.binOp, Op.intCmp], by simp only [VR]⟩

theorem binOp_eqs {t : TypeId} {x y : Value} (h1 : ∀ k n k' n', ¬ (x = .int k n ∧ y = .int k' n')) (h2 : ∀ a b, ¬ (x = .string a ∧ y = .string b)) (h3 : ∀ k b, x ≠ .float k b) (h4 : ∀ k a b, x ≠ .complex k a b) :
    (Go.binOp .eql t x y) = (do pure (.bool (← Op.equal t x y))) ∧ (Go.binOp .neq t x y) = (do pure (.bool (!(← Op.equal t x y)))) := by
  cases x <;> cases y <;> first
    | exact ⟨rfl, rfl⟩
    | exact absurd ⟨rfl, rfl⟩ (h1 _ _ _ _)
    | exact absurd ⟨rfl, rfl⟩ (h2 _ _)
    | exact absurd rfl (h3 _ _)
    | exact absurd rfl (h4 _ _ _)
theorem eqGuard_ok {P : Program} {op : BinOp} {t : TypeId} {x y : Operand} {va vb : Value} (h1 : va = .nilIface → vb = .nilIface → AM.isConst x = true ∨ AM.isConst y = true)
    (h2 : (op = .eql ∨ op = .neq) → ∀ cs ds, va = .agg cs → vb = .agg ds → P.eqGuardType P.depth t = false) (w : World) : (eqGuard op t x y va vb).run P w = .ok () w := by
  unfold eqGuard
  cases op <;> first | rfl | skip
  all_goals
    cases va <;> cases vb <;> first | rfl | skip
    · rcases h1 rfl rfl with h | h
      · cases x <;> simp_all [AM.isConst]
      · cases y <;> simp_all [AM.isConst]
    · simp [h2 (by simp) _ _ rfl rfl]
theorem VR.of_agg {a : AVal} {cs : Array Value} (h : VR θ a (.agg cs)) : ∃ l, a = .agg l := by
  cases a <;> simp only [VR] at h <;> simp_all
theorem VR.of_niliface {a : AVal} (h : VR θ a .nilIface) (ha : a ≠ .any) : a = .niliface := by
  cases a <;> first | exact absurd rfl ha | (simp only [VR] at h; simp_all)
theorem VR.not_float {a : AVal} {x : Value} (h : VR θ a x) (ha : a ≠ .any) : (∀ k b, x ≠ .float k b) ∧ (∀ k c b, x ≠ .complex k c b) := by
  cases a <;> first | exact absurd rfl ha | (simp only [VR] at h; constructor <;> intros <;> intro e <;> subst e <;> simp at h)
theorem VR.of_int {a : AVal} {k : IntKind} {n : Int} (h : VR θ a (.int k n)) (hm : ∀ k m r, a ≠ .mod k m r) (ha : a ≠ .any) : a = .int k n := by
  cases a <;> first | exact absurd rfl (hm _ _ _) | exact absurd rfl ha | (simp only [VR] at h; simp_all)
theorem equalIn_anyl {n : Nat} {t : TypeId} {b : AVal} : equalIn C n t .any b = none := by
  cases n with
  | zero => rfl
  | succ n =>
    unfold equalIn
    cases under C t with
    | none => rfl
    | some d => cases d <;> cases b <;> rfl
theorem equalIn_anyr {n : Nat} {t : TypeId} {a : AVal} : equalIn C n t a .any = none := by
  cases n with
  | zero => rfl
  | succ n =>
    unfold equalIn
    cases under C t with
    | none => rfl
    | some d => cases d <;> cases a <;> rfl
theorem equalIn_modl {n : Nat} {t : TypeId} {k : IntKind} {m r : Nat} {b : AVal} : equalIn C n t (.mod k m r) b = none := by
  cases n with
  | zero => rfl
  | succ n =>
    unfold equalIn
    cases under C t with
    | none => rfl
    | some d => cases d <;> cases b <;> rfl
theorem equalIn_modr {n : Nat} {t : TypeId} {k : IntKind} {m r : Nat} {a : AVal} : equalIn C n t a (.mod k m r) = none := by
  cases n with
  | zero => rfl
  | succ n =>
    unfold equalIn
    cases under C t with
    | none => rfl
    | some d => cases d <;> cases a <;> rfl
theorem intBeq_true {a b : Int} (h : intBeq a b = true) : a = b := by rw [intBeq_eq] at h; simpa using h
theorem mod_sound {k l : IntKind} {m r : Nat} {b : Int} {t : TypeId} {x : Value} (hx : VR θ (.mod k m r) x) (h : (kindBeq k l && (intBeq b (.ofNat m) && Nat.blt 0 m)) = true) :
    ∃ v', (Go.binOp .rem t x (.int l b)).run C.P w = .ok v' w ∧ VR θ (.int k (.ofNat r)) v' := by
  simp only [Bool.and_eq_true] at h
  obtain ⟨h1, h2, h3⟩ := h
  have h1 := kindBeq_eq h1; subst h1
  have h2 := intBeq_true h2; subst h2
  have h3 := of_blt h3
  simp only [VR] at hx
  obtain ⟨n, rfl, hr⟩ := hx
  have hb : ¬ ((m : Int) = 0) := by omega
  have e : (n : Int).tmod (m : Int) = (r : Int) := by
    rw [Int.tmod_eq_emod_of_nonneg (by omega), ← hr]; simp
  have hb' : ¬ (m = 0) := by omega
  refine ⟨.int k ((n : Int).tmod (m : Int)), by simp [Go.binOp, Op.intDiv, hb'], by simp only [VR, e]; rfl⟩
theorem VR.of_str {a : AVal} {s : ByteArray} (h : VR θ a (.string s)) (ha : a ≠ .any) : ∃ l, a = .str l := by
  cases a <;> first | exact absurd rfl ha | (simp only [VR] at h; simp_all)
theorem binop_any {op : BinOp} {t : TypeId} {a b v : AVal} (h : binop C op t a b = some v) : a ≠ .any ∧ b ≠ .any := by
  unfold binop at h
  split at h
  · exact ⟨by simp, by simp⟩
  · exact ⟨by simp, by simp⟩
  · exact ⟨by simp, by simp⟩
  · constructor
    · rintro rfl
      simp only [equalIn_anyl] at h
      repeat' split at h
      all_goals first | (cases h; done) | (rename_i hc; cases hc; done)
    · rintro rfl
      simp only [equalIn_anyr] at h
      repeat' split at h
      all_goals first | (cases h; done) | (rename_i hc; cases hc; done)
theorem binop_sound (hC : CfgOK C) {op : BinOp} {t : TypeId} {a b : AVal} {x y : Value} (ha : VR θ a x) (hb : VR θ b y) (h : binop C op t a b = some v) :
    ∃ v', (Go.binOp op t x y).run C.P w = .ok v' w ∧ VR θ v v' := by
  obtain ⟨haa, hba⟩ := binop_any h
  unfold binop at h
  split at h
  · rename_i k p l q
    split at h
    · rename_i hk
      have hk := kindBeq_eq hk; subst hk
      simp only [VR] at ha hb; subst ha hb
      exact arith_sound h
    · cases h
  · rename_i p q
    simp only [VR] at ha hb
    obtain ⟨s1, rfl, h1⟩ := ha
    obtain ⟨s2, rfl, h2⟩ := hb
    have he := str_beq h1 h2
    rw [beq_toListBytes] at he
    have hl := str_less h1 h2
    cases op <;> simp only at h <;> try (cases h; done)
    case add =>
      split at h
      · rename_i hle
        cases h
        have hle := of_ble hle
        rw [← h1, ← h2, List.length_map, List.length_map] at hle
        have z1 : s1.size = s1.data.toList.length := by simp
        have z2 : s2.size = s2.data.toList.length := by simp
        have hn : ¬ (((s1.size + s2.size : Nat) : Int) > IntKind.i64.max) := by
          have : IntKind.i64.max = 9223372036854775807 := rfl
          omega
        refine ⟨.string (s1 ++ s2), by simp only [Go.binOp, Op.stringOp]; rw [if_neg hn]; rfl, ?_⟩
        simp only [VR]
        refine ⟨s1 ++ s2, rfl, ?_⟩
        rw [← h1, ← h2]
        simp [ByteArray.data_append]
      · cases h
    case eql => cases h; exact ⟨.bool (s1.toList == s2.toList), by simp [Go.binOp, Op.stringOp], by simp only [VR, he]⟩
    case neq => cases h; exact ⟨.bool (!(s1.toList == s2.toList)), by simp [Go.binOp, Op.stringOp], by simp only [VR, he]⟩
    case lss => cases h; exact ⟨.bool (Op.bytesLess s1.toList s2.toList), by simp [Go.binOp, Op.stringOp], by simp only [VR, hl]⟩
    case leq => cases h; exact ⟨.bool (Op.bytesLess s1.toList s2.toList || s1.toList == s2.toList), by simp [Go.binOp, Op.stringOp], by simp only [VR, hl, he]⟩
    case gtr => cases h; exact ⟨.bool (!(Op.bytesLess s1.toList s2.toList || s1.toList == s2.toList)), by simp [Go.binOp, Op.stringOp], by simp only [VR, hl, he]⟩
    case geq => cases h; exact ⟨.bool (!(Op.bytesLess s1.toList s2.toList)), by simp [Go.binOp, Op.stringOp], by simp only [VR, hl]⟩
  · rename_i k m r l b
    have hb' := hb
    simp only [VR] at hb'
    subst hb'
    split at h
    · split at h
      · rename_i hk
        cases h
        exact mod_sound ha hk
      · cases h
    · cases h
  · rename_i hni hns hnm
    have hma : ∀ k m r, a ≠ .mod k m r := by
      rintro k m r rfl
      simp only [equalIn_modl] at h
      repeat' split at h
      all_goals first | (cases h; done) | (rename_i hc; cases hc; done)
    have hmb : ∀ k m r, b ≠ .mod k m r := by
      rintro k m r rfl
      simp only [equalIn_modr] at h
      repeat' split at h
      all_goals first | (cases h; done) | (rename_i hc; cases hc; done)
    have hq := binOp_eqs (t := t) (x := x) (y := y)
      (by rintro k n k' n' ⟨rfl, rfl⟩; exact hni _ _ _ _ (ha.of_int hma haa) (hb.of_int hmb hba))
      (by rintro p q ⟨rfl, rfl⟩; obtain ⟨l, h1⟩ := ha.of_str haa; obtain ⟨m, h2⟩ := hb.of_str hba; exact hns _ _ h1 h2)
      (ha.not_float haa).1 (ha.not_float haa).2
    split at h
    · split at h
      · rename_i r hr
        cases h
        have := equalIn_sound (w := w) hC 4 Op.maxDepth t a b x y r (by simp [Op.maxDepth]) ha hb hr
        exact ⟨.bool r, by rw [hq.1]; simp [Op.equal, this], by simp only [VR]⟩
      · cases h
    · split at h
      · rename_i r hr
        cases h
        have := equalIn_sound (w := w) hC 4 Op.maxDepth t a b x y r (by simp [Op.maxDepth]) ha hb hr
        exact ⟨.bool (!r), by rw [hq.2]; simp [Op.equal, this], by simp only [VR]⟩
      · cases h
    · cases h

theorem equalIn_agg {n : Nat} {t : TypeId} {l m : List AVal} {r : Bool} (h : equalIn C (n + 1) t (.agg l) (.agg m) = some r) : C.plain.any (Nat.beq t) = true := by
  unfold equalIn at h
  split at h <;> first | (rename_i hx hy; cases hx; done) | skip
  all_goals first | (cases h; done) | skip
  split at h
  · assumption
  · cases h

theorem opBin_sound (hC : CfgOK C) (T : TR θ tm nt ts) {o : Oper} {op : BinOp} {t ty : TypeId} {x y : Operand} (ho : o.op = .binOp op t x y ty) (h : opBin C op t x y (eval tm x) (eval tm y) s = some (.val v s')) :
    s' = s ∧ ∃ v', (execOp (ρ ts) o).run C.P w = .ok (.value v') w ∧ VR θ v v' := by
  unfold opBin at h
  split at h
  · rename_i a b hx hy
    split at h
    · rename_i hn
      obtain ⟨h1, rfl⟩ := val_some h
      have ha := eval_sound T hx
      have hb := eval_sound T hy
      obtain ⟨v', k1, k2⟩ := binop_sound (w := w) hC ha hb h1
      refine ⟨rfl, v', ?_, k2⟩
      have hg : (eqGuard op t x y (ρ ts x) (ρ ts y)).run C.P w = .ok () w := by
        refine eqGuard_ok (fun e1 e2 => ?_) (fun hop cs ds e1 e2 => ?_) w
        · rw [e1] at ha; rw [e2] at hb
          have q1 := ha.of_niliface (binop_any h1).1
          have q2 := hb.of_niliface (binop_any h1).2
          subst q1 q2
          simpa [nilsOk] using hn
        · rw [e1] at ha; rw [e2] at hb
          obtain ⟨l, q1⟩ := ha.of_agg
          obtain ⟨m, q2⟩ := hb.of_agg
          subst q1 q2
          have : C.plain.any (Nat.beq t) = true := by
            unfold binop at h1
            rcases hop with rfl | rfl <;> simp only at h1 <;> split at h1
            · rename_i hr; exact equalIn_agg hr
            · cases h1
            · rename_i hr; exact equalIn_agg hr
            · cases h1
          exact (hC.plain _ this).2
      simp [execOp, ho, hg, k1]
    · cases h
  · cases h
end
end Go.AM

namespace Go.AM
open Go.RowKit
section
variable {C : Cfg} {θ : Th} {lo base : Nat} {s s' : St} {w : World} {tm : Tr AVal} {nt : Nat} {ts : Array Value} {v : AVal}

theorem zero_sound (hC : CfgOK C) {t : TypeId} {z : AVal} (h : zero C t = some z) : ∃ i v, C.P.info? t = some i ∧ i.zero = some v ∧ VR θ z v := by
  unfold zero at h
  split at h
  · rename_i i hi
    split at h
    · rename_i v hv
      exact ⟨i, v, hC.ty _ _ hi, hv, ofValue_sound _ _ _ h⟩
    · cases h
  · cases h
theorem run_zero (hC : CfgOK C) {t : TypeId} {z : AVal} (h : zero C t = some z) (w : World) : ∃ v, (Go.zeroValue t).run C.P w = .ok v w ∧ VR θ z v := by
  obtain ⟨i, v, h1, h2, h3⟩ := zero_sound (θ := θ) hC h
  exact ⟨v, by simp [Go.zeroValue, typeInfo, h1, h2], h3⟩

theorem foldl_fill (off : Nat) : ∀ (vs : List Value) (j : Nat) (cs : Array Value), off + j + vs.length ≤ cs.size →
    ((vs.zipIdx j).foldl (fun cs (x : Value × Nat) => cs.setIfInBounds (off + x.2) x.1) cs).toList = cs.toList.take (off + j) ++ vs ++ cs.toList.drop (off + j + vs.length)
  | [], j, cs, _ => by simp
  | v :: r, j, cs, h => by
    simp only [List.zipIdx_cons, List.foldl_cons]
    rw [foldl_fill off r (j + 1) _ (by simp at h ⊢; omega)]
    simp only [Array.toList_setIfInBounds, List.length_cons] at h ⊢
    have hlt : off + j < cs.toList.length := by simp; omega
    rw [show off + (j + 1) = off + j + 1 by omega]
    have e1 : (cs.toList.set (off + j) v).take (off + j + 1) = cs.toList.take (off + j) ++ [v] := by
      rw [List.take_succ_eq_append_getElem (by simpa using hlt)]
      simp [List.take_set_of_le]
    have e2 : (cs.toList.set (off + j) v).drop (off + j + 1 + r.length) = cs.toList.drop (off + j + 1 + r.length) := by
      rw [List.drop_set_of_lt (by omega)]
    rw [e1, e2, show off + j + (r.length + 1) = off + j + 1 + r.length by omega]
    simp

theorem fills_sound (T : TR θ tm nt ts) (pl : Nat → Option (Nat × Nat)) : ∀ (parts : List (Nat × Operand)) (cells l : List AVal) (cs : Array Value), VRs θ cells cs.toList → fills pl tm cells parts = some l →
    ∃ cs' : Array Value, Instr.fill pl cs (parts.map fun (i, x) => (i, ρ ts x)) = some cs' ∧ VRs θ l cs'.toList
  | [], cells, l, cs, hcs, h => by
    unfold fills at h; cases h
    exact ⟨cs, rfl, hcs⟩
  | (i, x) :: r, cells, l, cs, hcs, h => by
    unfold fills at h
    split at h
    · rename_i off size v hp hv
      split at h
      · rename_i hb
        have hb' : Nat.beq v.cells.length size = true ∧ Nat.ble (off + size) cells.length = true := by simpa using hb
        have h1 := of_nbeq hb'.1
        have h2 := of_ble hb'.2
        have hvr := (eval_sound T hv).cells
        have hlen := hvr.length
        have hcl := hcs.length
        have hfit : off + 0 + (ρ ts x).cells.toList.length ≤ cs.size := by rw [← hlen, h1]; simp at hcl; omega
        have hf := foldl_fill off (ρ ts x).cells.toList 0 cs hfit
        have hvs : VRs θ (fillOne cells off v.cells) (((ρ ts x).cells.toList.zipIdx 0).foldl (fun cs (x : Value × Nat) => cs.setIfInBounds (off + x.2) x.1) cs).toList := by
          rw [hf]
          unfold fillOne
          have := ((hcs.take off).append hvr).append (hcs.drop (off + v.cells.length))
          rw [Nat.add_zero]
          rw [hlen] at this ⊢
          simpa using this
        obtain ⟨cs', k1, k2⟩ := fills_sound T pl r _ l _ hvs h
        refine ⟨cs', ?_, k2⟩
        have hsz : (ρ ts x).cells.size = size := by rw [← h1, hlen, Array.length_toList]
        have hgo : ¬ (off + size > cs.size) := by simp at hcl; omega
        simp only [List.map_cons, Instr.fill, hp, hsz, ne_eq, not_true_eq_false, false_or, Bool.or_eq_true, decide_eq_true_eq, hgo, if_false]
        rw [← k1]
        congr 1
        rw [← Array.foldl_toList, Array.toList_zipIdx]
      · cases h
    · cases h

theorem placesOf_sound (hC : CfgOK C) : ∀ {fs : List Field} {pl : List (Nat × Nat)}, placesOf C fs = some pl → fs.mapM (fun f => (C.P.info? f.type).map fun i => (f.offset, i.size)) = some pl
  | [], pl, h => by unfold placesOf at h; cases h; rfl
  | f :: r, pl, h => by
    unfold placesOf at h
    split at h
    · rename_i n l hn hl
      cases h
      obtain ⟨i, h1, h2⟩ := sizeOf_sound hC hn
      simp [h1, h2, placesOf_sound hC hl]
    · cases h

theorem opBuild_sound (hC : CfgOK C) (T : TR θ tm nt ts) {t : TypeId} {parts : Array (Nat × Operand)} (h : opBuild C t parts tm s = some (.val v s')) :
    s' = s ∧ ∃ v', (Instr.build t (parts.map fun (i, x) => (i, ρ ts x))).run C.P w = .ok v' w ∧ VR θ v v' := by
  unfold opBuild at h
  split at h
  · rename_i z fs hz hu
    split at h
    · rename_i pl hpl
      split at h
      · rename_i l hl
        cases h
        obtain ⟨i, zv, g1, g2, g3⟩ := zero_sound (θ := θ) hC hz
        obtain ⟨cs', k1, k2⟩ := fills_sound T _ _ _ _ zv.cells g3.cells hl
        refine ⟨rfl, .agg cs', ?_, by simp only [VR]; exact ⟨_, rfl, k2⟩⟩
        apply run_build
        unfold Program.built
        simp only [g1, under_sound hC hu, g2, placesOf_sound hC hpl]
        rw [← k1]
        simp
      · cases h
    · cases h
  · rename_i z n e hz hu
    split at h
    · rename_i m hm
      split at h
      · rename_i l hl
        cases h
        obtain ⟨i, zv, g1, g2, g3⟩ := zero_sound (θ := θ) hC hz
        obtain ⟨ie, q1, q2⟩ := sizeOf_sound hC hm
        obtain ⟨cs', k1, k2⟩ := fills_sound T _ _ _ _ zv.cells g3.cells hl
        refine ⟨rfl, .agg cs', ?_, by simp only [VR]; exact ⟨_, rfl, k2⟩⟩
        apply run_build
        unfold Program.built
        simp only [g1, under_sound hC hu, g2, q1, q2]
        rw [← k1]
        simp
      · cases h
    · cases h
  · cases h
end
end Go.AM

namespace Go.AM
open Go.RowKit
section
variable {C : Cfg} {θ : Th} {lo base : Nat} {s s' : St} {w : World} {tm : Tr AVal} {nt : Nat} {ts : Array Value} {v : AVal}

theorem keyOk1_sound (hC : CfgOK C) {t : TypeId} (h : keyOk1 C t = true) : ∃ d, C.P.underlying t = some d ∧ (d = .string ∨ d = .bool ∨ ∃ k, d = .int k) := by
  unfold keyOk1 at h
  split at h
  · rename_i hu; exact ⟨_, under_sound hC hu, .inl rfl⟩
  · rename_i hu; exact ⟨_, under_sound hC hu, .inr (.inl rfl)⟩
  · rename_i k hu; exact ⟨_, under_sound hC hu, .inr (.inr ⟨k, rfl⟩)⟩
  · cases h
theorem run_checkKey1 {P : Program} {t : TypeId} {d : TypeDesc} (hu : P.underlying t = some d) (hd : d = .string ∨ d = .bool ∨ ∃ k, d = .int k) (em : Bool) (n : Nat) (x : Value) (w : World) :
    (Instr.checkKey em (n + 1) t x).run P w = .ok () w := by
  unfold Instr.checkKey
  rcases hd with rfl | rfl | ⟨k, rfl⟩ <;> cases x <;> simp [run_underlying hu]
theorem keyOk_sound (hC : CfgOK C) {t : TypeId} {k : AVal} {x : Value} (hk : VR θ k x) (h : keyOk C t k = true) (em : Bool) (n : Nat) (w : World) : (Instr.checkKey em (n + 2) t x).run C.P w = .ok () w := by
  unfold keyOk at h
  split at h
  · rename_i hu; exact run_checkKey1 (under_sound hC hu) (.inl rfl) em _ x w
  · rename_i hu; exact run_checkKey1 (under_sound hC hu) (.inr (.inl rfl)) em _ x w
  · rename_i hu; exact run_checkKey1 (under_sound hC hu) (.inr (.inr ⟨_, rfl⟩)) em _ x w
  · rename_i fs l hu
    simp only [VR] at hk
    obtain ⟨cs, rfl, h1⟩ := hk
    unfold Instr.checkKey
    simp only [Sem.run_bind, run_underlying (under_sound hC hu), Result.andThen_ok]
    rw [← Array.forIn_toList]
    clear hu
    generalize fs.toList = fl at h ⊢
    induction fl with
    | nil => simp
    | cons f r ih =>
      simp only [List.all_cons, Bool.and_eq_true] at h
      obtain ⟨⟨⟨hn, h2⟩, h3⟩, h4⟩ := h
      have hn : ¬ f.name = "_" := by simpa using hn
      obtain ⟨d, hd, hd'⟩ := keyOk1_sound hC h2
      split at h3
      · rename_i a ha
        obtain ⟨v', k1, k2⟩ := part_sound (w := w) hC h1 ha
        have := run_checkKey1 hd hd' em n v' w
        have ih' := ih (by simpa using h4)
        simp only [List.forIn_cons, Sem.run_bind, ne_eq, hn, not_false_eq_true, if_true, k1, Result.andThen_ok, this, Sem.run_pure]
        simpa using ih'
      · cases h3
  · cases h

theorem ERs.get {θ : Th} : ∀ {l : List (AVal × AVal × Nat)} {es : List MapEntry}, ERs θ l es → ∀ (i : Nat) (a : AVal × AVal × Nat), l[i]? = some a → ∃ e, es[i]? = some e ∧ ER θ a e
  | [], _, h, i, a, hi => by simp at hi
  | x :: l, _, ⟨e, r, h1, h2, h3⟩, i, a, hi => by
    subst h1
    cases i with
    | zero => simp at hi; subst hi; exact ⟨e, by simp, h2⟩
    | succ i => simp at hi ⊢; exact ERs.get h3 i a hi
theorem ERs.set {θ : Th} : ∀ {l : List (AVal × AVal × Nat)} {es : List MapEntry}, ERs θ l es → ∀ (i : Nat) (a : AVal × AVal × Nat) (e : MapEntry), ER θ a e → ERs θ (l.set i a) (es.set i e)
  | [], _, h, i, a, e, _ => by cases h; simp [ERs]
  | x :: l, _, ⟨e0, r, h1, h2, h3⟩, i, a, e, he => by
    subst h1
    cases i with
    | zero => exact ⟨e, r, rfl, he, h3⟩
    | succ i => exact ⟨e0, r.set i e, rfl, h2, ERs.set h3 i a e he⟩
theorem ERs.append {θ : Th} : ∀ {l l' : List (AVal × AVal × Nat)} {r r' : List MapEntry}, ERs θ l r → ERs θ l' r' → ERs θ (l ++ l') (r ++ r')
  | [], _, _, _, h, h' => by cases h; exact h'
  | _ :: _, _, _, _, ⟨d, r, h1, h2, h3⟩, h' => by subst h1; exact ⟨d, _, rfl, h2, ERs.append h3 h'⟩

/-- what is found: nothing, or an entry at a place -/
def Found (θ : Th) (es : List MapEntry) (i0 : Nat) (r : Option (Nat × AVal × AVal × Nat)) (q : Option (Nat × Value)) : Prop :=
  match r, q with
  | none, none => True
  | some (i, a), some (j, u) => i = j ∧ i0 ≤ i ∧ ∃ e, es[i - i0]? = some e ∧ ER θ a e ∧ e.val = u
  | _, _ => False

theorem mapFind_asking (hC : CfgOK C) {kt : TypeId} {k : AVal} {x : Value} (hk : VR θ k x) : ∀ (l : List (AVal × AVal × Nat)) (es : List MapEntry) (i : Nat) (r : Option (Nat × AVal × AVal × Nat)), ERs θ l es → mapFind C kt k i l = some r →
    ∃ q, (Instr.findAsking kt x es i).run C.P w = .ok q w ∧ Found θ es i r q
  | [], es, i, r, hl, h => by
    cases hl
    unfold mapFind at h; cases h
    exact ⟨none, by simp [Instr.findAsking], trivial⟩
  | a :: l, es, i, r, ⟨e, es', h1, h2, h3⟩, h => by
    subst h1
    unfold mapFind at h
    split at h
    · rename_i he
      cases h
      have := equalIn_sound (w := w) hC 3 Op.maxDepth kt k a.1 x e.key true (by simp [Op.maxDepth]) hk h2.1 he
      refine ⟨some (i, e.val), by simp [Instr.findAsking, Op.equal, this], rfl, Nat.le_refl _, e, by simp, h2, rfl⟩
    · rename_i he
      have := equalIn_sound (w := w) hC 3 Op.maxDepth kt k a.1 x e.key false (by simp [Op.maxDepth]) hk h2.1 he
      obtain ⟨q, k1, k2⟩ := mapFind_asking hC hk l es' (i + 1) r h3 h
      refine ⟨q, by simp [Instr.findAsking, Op.equal, this, k1], ?_⟩
      unfold Found at k2 ⊢
      split at k2
      · trivial
      · obtain ⟨g1, g2, e', g3, g4⟩ := k2
        refine ⟨g1, by omega, e', ?_, g4⟩
        rename_i ii _ _ _
        rw [show ii - i = (ii - (i + 1)) + 1 by omega]
        simpa using g3
      · exact k2.elim
    · cases h

theorem equalIn_plain {n : Nat} {t : TypeId} {d : TypeDesc} {a b : AVal} {r : Bool} (hud : under C t = some d) (hd : d = .string ∨ d = .bool ∨ ∃ k, d = .int k) (h : equalIn C (n + 1) t a b = some r) :
    (d = .string ∧ ∃ p q, a = .str p ∧ b = .str q ∧ r = listBeq Nat.beq p q) ∨ (d = .bool ∧ ∃ p q, a = .bool p ∧ b = .bool q ∧ r = (p == q)) ∨ ((∃ kk, d = .int kk) ∧ ∃ k p q, a = .int k p ∧ b = .int k q ∧ r = (p == q)) := by
  unfold equalIn at h
  split at h
  · rename_i p q hu
    rw [hud] at hu; cases hu; cases h
    exact .inr (.inl ⟨rfl, p, q, rfl, rfl, rfl⟩)
  · rename_i k p l q hu
    rw [hud] at hu; cases hu
    split at h
    · rename_i hk
      have hk := kindBeq_eq hk; subst hk; cases h
      exact .inr (.inr ⟨⟨_, rfl⟩, k, p, q, rfl, rfl, intBeq_eq _ _⟩)
    · cases h
  · rename_i p q hu
    rw [hud] at hu; cases hu; cases h
    exact .inl ⟨rfl, p, q, rfl, rfl, rfl⟩
  all_goals first
    | (cases h; done)
    | (rename_i hu; rw [hud] at hu; cases hu; rcases hd with hd | hd | ⟨_, hd⟩ <;> cases hd)

theorem sameNow_of (_hC : CfgOK C) {kt : TypeId} {d : TypeDesc} (hud : under C kt = some d) (hd : d = .string ∨ d = .bool ∨ ∃ k, d = .int k) {k a : AVal} {x y : Value} {b : Bool} (hk : VR θ k x) (ha : VR θ a y) (h : equalIn C 3 kt k a = some b) :
    Instr.sameNow d x y = some b := by
  rcases equalIn_plain hud hd h with ⟨rfl, p, q, rfl, rfl, rfl⟩ | ⟨rfl, p, q, rfl, rfl, rfl⟩ | ⟨⟨kk, rfl⟩, k, p, q, rfl, rfl, rfl⟩ <;> simp only [VR] at hk ha
  · obtain ⟨s1, rfl, h1⟩ := hk
    obtain ⟨s2, rfl, h2⟩ := ha
    simp [Instr.sameNow, str_beq h1 h2]
  · subst hk ha; rfl
  · subst hk ha; simp [Instr.sameNow]

theorem mapFind_now (hC : CfgOK C) {kt : TypeId} {d : TypeDesc} (hud : under C kt = some d) (hd : d = .string ∨ d = .bool ∨ ∃ k, d = .int k) {k : AVal} {x : Value} (hk : VR θ k x) :
    ∀ (l : List (AVal × AVal × Nat)) (es : List MapEntry) (i : Nat) (r : Option (Nat × AVal × AVal × Nat)), ERs θ l es → mapFind C kt k i l = some r →
    ∃ q, Instr.findNow d x es i = some q ∧ Found θ es i r q
  | [], es, i, r, hl, h => by
    cases hl
    unfold mapFind at h; cases h
    exact ⟨none, rfl, trivial⟩
  | a :: l, es, i, r, ⟨e, es', h1, h2, h3⟩, h => by
    subst h1
    unfold mapFind at h
    split at h
    · rename_i he
      cases h
      have := sameNow_of hC hud hd hk h2.1 he
      exact ⟨some (i, e.val), by simp [Instr.findNow, this], rfl, Nat.le_refl _, e, by simp, h2, rfl⟩
    · rename_i he
      have := sameNow_of hC hud hd hk h2.1 he
      obtain ⟨q, k1, k2⟩ := mapFind_now hC hud hd hk l es' (i + 1) r h3 h
      refine ⟨q, by simp [Instr.findNow, this, k1], ?_⟩
      unfold Found at k2 ⊢
      split at k2
      · trivial
      · obtain ⟨g1, g2, e', g3, g4⟩ := k2
        refine ⟨g1, by omega, e', ?_, g4⟩
        rename_i ii _ _ _
        rw [show ii - i = (ii - (i + 1)) + 1 by omega]
        simpa using g3
      · exact k2.elim
    · cases h

theorem findNow_struct {fs : Array Field} {x : Value} : ∀ (es : List MapEntry) (i : Nat), Instr.findNow (.struct fs) x es i = none ∨ es = []
  | [], _ => .inr rfl
  | e :: r, i => by left; cases x <;> simp [Instr.findNow, Instr.sameNow]

theorem mapFind_sound (hC : CfgOK C) {kt : TypeId} {k : AVal} {x : Value} (hk : VR θ k x) (hok : keyOk C kt k = true) {l : List (AVal × AVal × Nat)} {es : List MapEntry} {r : Option (Nat × AVal × AVal × Nat)}
    (hl : ERs θ l es) (h : mapFind C kt k 0 l = some r) : ∃ q, (Instr.findKey kt x es).run C.P w = .ok q w ∧ Found θ es 0 r q := by
  unfold keyOk at hok
  split at hok
  · rename_i hu
    obtain ⟨q, k1, k2⟩ := mapFind_now hC hu (.inl rfl) hk l es 0 r hl h
    exact ⟨q, by simp [Instr.findKey, run_underlying (under_sound hC hu), k1], k2⟩
  · rename_i hu
    obtain ⟨q, k1, k2⟩ := mapFind_now hC hu (.inr (.inl rfl)) hk l es 0 r hl h
    exact ⟨q, by simp [Instr.findKey, run_underlying (under_sound hC hu), k1], k2⟩
  · rename_i hu
    obtain ⟨q, k1, k2⟩ := mapFind_now hC hu (.inr (.inr ⟨_, rfl⟩)) hk l es 0 r hl h
    exact ⟨q, by simp [Instr.findKey, run_underlying (under_sound hC hu), k1], k2⟩
  · rename_i fs l' hu
    obtain ⟨q, k1, k2⟩ := mapFind_asking (w := w) hC hk l es 0 r hl h
    rcases findNow_struct (fs := fs) (x := x) es 0 with hn | hn
    · exact ⟨q, by simp [Instr.findKey, run_underlying (under_sound hC hu), hn, k1], k2⟩
    · subst hn
      simp [Instr.findAsking] at k1
      subst k1
      exact ⟨none, by simp [Instr.findKey, run_underlying (under_sound hC hu), Instr.findNow], k2⟩
  · cases hok

theorem opLookup_sound (hC : CfgOK C) (W : WR θ lo base s.heap w) (T : TR θ tm nt ts) {t : TypeId} {x k : Operand} {ok : Bool} (h : opLookup C t (eval tm x) (eval tm k) ok s = some (.val v s')) :
    s' = s ∧ ∃ v', (Instr.lookup t (ρ ts x) (ρ ts k) ok).run C.P w = .ok v' w ∧ VR θ v v' := by
  unfold opLookup at h
  split at h
  · rename_i kt et xv kv hu hx hk
    split at h
    · cases h
    · rename_i hok
      have hxv := eval_sound T hx
      have hkv := eval_sound T hk
      have hck := fun em => keyOk_sound hC hkv hok em 9998 w
      have hu' := under_sound hC hu
      have hres : ∀ (es : List MapEntry) (r : Option (Nat × AVal × AVal × Nat)) (q : Option (Nat × Value)), Found θ es 0 r q →
          (match r with
            | some (_, _, v, _) => some (Out.val (lkp ok v true) s)
            | none => match zero C et with
              | some v => some (.val (lkp ok v false) s)
              | none => none) = some (.val v s') →
          s' = s ∧ ((∃ i u, q = some (i, u) ∧ VR θ v (if ok then .tuple #[u, .bool true] else u)) ∨
            (q = none ∧ ∃ zv, (Go.zeroValue et).run C.P w = .ok zv w ∧ VR θ v (if ok then .tuple #[zv, .bool false] else zv))) := by
        intro es r q hf h
        split at h
        · rename_i i a1 u n
          cases h
          cases q with
          | none => exact hf.elim
          | some ju =>
            obtain ⟨_, _, e, _, he, he2⟩ := hf
            obtain ⟨j, u'⟩ := ju
            simp only at he2
            subst he2
            refine ⟨rfl, .inl ⟨j, e.val, rfl, ?_⟩⟩
            cases ok with
            | true => simp only [lkp, VR, if_true]; exact ⟨_, rfl, VRs.cons he.2.1 (VRs.cons (by simp only [VR]) VRs.nil)⟩
            | false => exact he.2.1
        · split at h
          · rename_i z hz
            cases h
            obtain ⟨zv, g1, g2⟩ := run_zero (θ := θ) hC hz w
            cases q with
            | some ju => exact hf.elim
            | none =>
              refine ⟨rfl, .inr ⟨rfl, zv, g1, ?_⟩⟩
              cases ok with
              | true => simp only [lkp, VR, if_true]; exact ⟨_, rfl, VRs.cons g2 (VRs.cons (by simp only [VR]) VRs.nil)⟩
              | false => exact g2
          · cases h
      cases xv with
      | nilmap =>
        simp only [VR] at hxv
        obtain ⟨q, hq, hf⟩ := mapFind_sound (w := w) hC hkv hok (l := []) (es := []) (r := none) rfl rfl
        obtain ⟨e1, ⟨i, u, rfl, e3⟩ | ⟨rfl, zv, e2, e3⟩⟩ := hres [] none q hf h
        · exact hf.elim
        · refine ⟨e1, _, ?_, e3⟩
          have hck := hck true
          simp only [Nat.reduceAdd] at hck
          cases ok <;> simp [Instr.lookup, hxv, run_underlying hu', hck, hq, e2]
      | map b =>
        simp only at h
        cases hb : s.heap.get b with
        | none => simp [hb] at h
        | some blk =>
          cases blk with
          | map es clock =>
            simp only [hb] at h
            simp only [VR] at hxv
            obtain ⟨L, g1, g2⟩ := hxv
            obtain ⟨es', k1, k2⟩ := W.blk _ _ _ hb g1
            have hck := hck es'.isEmpty
            simp only [Nat.reduceAdd] at hck
            cases hm : mapFind C kt kv 0 es with
            | none => simp [hm] at h
            | some r =>
              simp only [hm] at h
              obtain ⟨q, hq, hf⟩ := mapFind_sound (w := w) hC hkv hok k2 hm
              obtain ⟨e1, ⟨i, u, rfl, e3⟩ | ⟨rfl, zv, e2, e3⟩⟩ := hres es'.toList r q hf (by rw [← h]; cases r <;> rfl)
              · refine ⟨e1, _, ?_, e3⟩
                cases ok <;> simp [Instr.lookup, run_underlying hu', g2, getObj, Sem.run, k1, hck, hq]
              · refine ⟨e1, _, ?_, e3⟩
                cases ok <;> simp [Instr.lookup, run_underlying hu', g2, getObj, Sem.run, k1, hck, hq, e2]
          | _ => simp [hb] at h
      | _ => simp at h
  · cases h
end
end Go.AM

namespace Go.AM
open Go.RowKit

namespace Tr
variable {α β : Type}
noncomputable def setL (t : Tr α) (i : Nat) : List α → Tr α
  | [] => t
  | x :: l => (t.set i x).setL (i + 1) l
theorem setList_eq (t : Tr α) (i : Nat) (l : List α) (k : Tr α → β) : t.setList i l k = k (t.setL i l) := by
  induction l generalizing t i with
  | nil => rfl
  | cons x r ih =>
    show t.setK i x (fun t => t.setList (i + 1) r k) = _
    rw [setK_eq, ih]; rfl
theorem get_setL (t : Tr α) (i j : Nat) (l : List α) : (t.setL i l).get j = if i ≤ j ∧ j < i + l.length then l[j - i]? else t.get j := by
  induction l generalizing t i with
  | nil => simp [setL]; intro h1 h2; omega
  | cons x r ih =>
    simp only [setL, ih, get_set, List.length_cons]
    by_cases h1 : i + 1 ≤ j ∧ j < i + 1 + r.length
    · rw [if_pos h1, if_pos (by omega)]
      rw [show j - i = (j - (i + 1)) + 1 by omega]
      simp
    · rw [if_neg h1]
      by_cases h2 : j = i
      · subst h2
        rw [if_pos rfl, if_pos (by omega)]
        simp
      · rw [if_neg h2, if_neg (by omega)]
end Tr

section
variable {C : Cfg} {θ : Th} {lo base : Nat} {s s' : St} {w : World} {tm : Tr AVal} {nt : Nat} {ts : Array Value} {v : AVal}

noncomputable def St.set (s : St) (b : Nat) (x : ABlk) : St := { s with heap := s.heap.set b x, log := (b, x) :: s.log }
theorem put_eq {β : Type} (s : St) (b : Nat) (x : ABlk) (k : St → β) : s.put b x k = k (s.set b x) := by
  unfold St.put St.set
  rw [Tr.setK_eq]

theorem newBlk_some {β : Type} {x : ABlk} {k : Nat → St → Option β} {r : β} (h : newBlk C s x none k = some r) :
    s.heap.get s.next = none ∧ C.lo ≤ s.next ∧ k s.next { s.set s.next x with next := s.next + 1 } = some r := by
  unfold newBlk at h
  split at h
  · rename_i h1 h2
    rw [strictN_eq, strictN_eq, put_eq] at h
    exact ⟨h1, of_ble h2, h⟩
  · cases h
theorem newRow_some {β : Type} {e : TypeId} {vs : List AVal} {k : Nat → St → Option β} {r : β} (h : AM.newRow C s e vs none k = some r) :
    s.heap.get s.next = none ∧ C.lo ≤ s.next ∧ k s.next { s.set s.next (.row e vs.length (Tr.leaf.setL 0 vs)) with next := s.next + 1 } = some r := by
  unfold AM.newRow at h
  rw [Tr.setList_eq, strictN_eq] at h
  exact newBlk_some h

theorem CellsR.ofList {l : List AVal} {c : Array Value} (h : VRs θ l c.toList) : CellsR θ (Tr.leaf.setL 0 l) c 0 l.length := by
  intro i hi
  have : l[i]? = some l[i] := List.getElem?_eq_getElem hi
  obtain ⟨v, h1, h2⟩ := h.get i _ this
  refine ⟨l[i], v, ?_, by simpa using h1, h2⟩
  rw [Tr.get_setL, if_pos (by omega)]
  simp

/-- what an operation of the machine that makes a block comes to, whenever it is done -/
def Makes (P : Program) (θ : Th) (x : Sem Next) (v : AVal) (b : Nat) (blk : ABlk) : Prop :=
  ∀ w : World, ∃ o csz v', x.run P w = .ok (.value v') (w.alloc o) ∧ ∀ θ' : Th, θ.le θ' → θ' b = some ⟨w.heap.size, 0, csz⟩ → BR θ' blk ⟨w.heap.size, 0, csz⟩ (some o) ∧ VR θ' v v'

theorem BR_row {θ : Th} {l : List AVal} {c : Array Value} {e : TypeId} {cb : Nat} (h : VRs θ l c.toList) : BR θ (.row e l.length (Tr.leaf.setL 0 l)) ⟨cb, 0, c.size⟩ (some (.cells c e (0, 0))) := by
  refine ⟨c, rfl, rfl, ?_, CellsR.ofList h⟩
  have := h.length
  simp at this ⊢
  omega

theorem opAlloc_sound (hC : CfgOK C) {e : TypeId} (h : opAlloc C e s = some (.val v s')) :
    ∃ b x, s.heap.get b = none ∧ C.lo ≤ b ∧ b = s.next ∧ s'.heap = s.heap.set b x ∧ x ≠ .dead ∧ Makes C.P θ (do pure (.value (← Instr.alloc e true (.tuple #[])))) v b x := by
  unfold opAlloc at h
  split at h
  · rename_i z hz
    obtain ⟨h1, h2, h3⟩ := newRow_some h
    cases h3
    refine ⟨s.next, _, h1, h2, rfl, rfl, by simp, fun w => ?_⟩
    obtain ⟨zv, g1, g2⟩ := run_zero (θ := θ) hC hz w
    refine ⟨.cells zv.cells e, zv.cells.size, .pointer (some ⟨w.heap.size, 0, none⟩), ?_, fun θ' hle hb => ⟨BR_row (VRs.mono hle _ _ g2.cells), by simp only [VR]; exact ⟨_, hb, rfl⟩⟩⟩
    simp [Instr.alloc, g1, newVar, Go.newRow]
  · cases h

theorem opBox_sound (T : TR θ tm nt ts) {e : TypeId} {x : Operand} (h : opBox C e (eval tm x) s = some (.val v s')) :
    ∃ b y, s.heap.get b = none ∧ C.lo ≤ b ∧ b = s.next ∧ s'.heap = s.heap.set b y ∧ y ≠ .dead ∧ Makes C.P θ (do pure (.value (← Instr.box e (ρ ts x)))) v b y := by
  unfold opBox at h
  split at h
  · rename_i z hz
    obtain ⟨h1, h2, h3⟩ := newRow_some h
    cases h3
    refine ⟨s.next, _, h1, h2, rfl, rfl, by simp, fun w => ?_⟩
    refine ⟨.cells (ρ ts x).cells e, (ρ ts x).cells.size, .pointer (some ⟨w.heap.size, 0, none⟩), ?_, fun θ' hle hb => ⟨BR_row (VRs.mono hle _ _ (eval_sound T hz).cells), by simp only [VR]; exact ⟨_, hb, rfl⟩⟩⟩
    simp [Instr.box, newVar, Go.newRow]
  · cases h

theorem opMakeMap_sound {t : TypeId} {r : Option Operand} (h : opMakeMap C r s = some (.val v s')) :
    ∃ b y, s.heap.get b = none ∧ C.lo ≤ b ∧ b = s.next ∧ s'.heap = s.heap.set b y ∧ y ≠ .dead ∧ Makes C.P θ (do pure (.value (← Instr.makeMap t (r.map (ρ ts))))) v b y := by
  unfold opMakeMap at h
  split at h
  · obtain ⟨h1, h2, h3⟩ := newBlk_some h
    cases h3
    refine ⟨s.next, _, h1, h2, rfl, rfl, by simp, fun w => ?_⟩
    refine ⟨.map #[] 0, 0, .map (some w.heap.size), ?_, fun θ' hle hb => ⟨⟨#[], rfl, rfl⟩, by simp only [VR]; exact ⟨_, hb, rfl⟩⟩⟩
    simp [Instr.makeMap]
  · cases h

theorem repeatL_length (l : List AVal) (c : Nat) : (repeatL l c).length = c * l.length := by
  induction c with
  | zero => simp [repeatL]
  | succ c ih => simp [repeatL, ih, Nat.add_mul]; omega
theorem repeatL_get (l : List AVal) : ∀ (c i : Nat), i < c * l.length → (repeatL l c)[i]? = l[i % l.length]?
  | 0, i, h => by simp at h
  | c + 1, i, h => by
    simp only [repeatL]
    by_cases hi : i < l.length
    · rw [List.getElem?_append_left hi, Nat.mod_eq_of_lt hi]
    · rw [List.getElem?_append_right (by omega), repeatL_get l c (i - l.length) (by rw [Nat.add_mul] at h; omega)]
      congr 1
      rw [Nat.mod_eq_sub_mod (a := i) (by omega)]
theorem repeat_VRs {l : List AVal} {cs : Array Value} (c : Nat) (h : VRs θ l cs.toList) : VRs θ (repeatL l c) ((Array.range (c * cs.size)).map fun i => cs[i % cs.size]!).toList := by
  have hlen : l.length = cs.size := by have := h.length; simpa using this
  refine VRs.of_get (by rw [repeatL_length, hlen]; simp) fun i a u ha hu => ?_
  have hi : i < c * l.length := by
    rcases Nat.lt_or_ge i (repeatL l c).length with q | q
    · rwa [repeatL_length] at q
    · rw [List.getElem?_eq_none q] at ha; cases ha
  rw [repeatL_get l c i hi] at ha
  obtain ⟨v, h1, h2⟩ := h.get _ _ ha
  have hpos : i % cs.size < cs.size := Nat.mod_lt _ (by rw [hlen] at hi; rcases Nat.eq_zero_or_pos cs.size with q | q; · rw [q] at hi; simp at hi
                                                        · exact q)
  have hv : cs[i % cs.size]! = v := by
    rw [getElem!_pos cs _ hpos]
    rw [hlen] at h1
    rw [Array.getElem?_toList] at h1
    rw [Array.getElem?_eq_getElem hpos] at h1
    exact Option.some.inj h1
  have hu' : u = cs[i % cs.size]! := by
    rw [hlen] at hi
    simp [hi] at hu
    exact hu.symm
  rw [hu', hv]
  exact h2

theorem opMakeSlice_sound (hC : CfgOK C) (T : TR θ tm nt ts) {t : TypeId} {l c : Operand} (h : opMakeSlice C t (eval tm l) (eval tm c) s = some (.val v s')) :
    ∃ b y, s.heap.get b = none ∧ C.lo ≤ b ∧ b = s.next ∧ s'.heap = s.heap.set b y ∧ y ≠ .dead ∧ Makes C.P θ (do pure (.value (← Instr.makeSlice t (ρ ts l) (ρ ts c)))) v b y := by
  unfold opMakeSlice at h
  split at h
  · rename_i e k l' k' c' hu hl hc
    split at h
    · rename_i z zv hz hzv
      split at h
      · rename_i hcond
        have hcond' : ((Nat.ble l' c' = true ∧ Nat.ble c' 100000 = true) ∧ Nat.beq zv.cells.length z = true) ∧ bytesOk C e c' = true := by simpa using hcond
        have e1 := of_ble hcond'.1.1.1
        have e2 := of_ble hcond'.1.1.2
        have e3 := of_nbeq hcond'.1.2
        obtain ⟨i, g1, g2⟩ := sizeOf_sound hC hz
        have hb : i.bytes * c' ≤ 16777216 ∧ c' * i.size ≤ 16777216 := by
          have h4 := hcond'.2
          unfold bytesOk at h4
          split at h4
          · rename_i j hj
            have := hC.ty _ _ hj
            rw [g1] at this; cases this
            have h5 := (Bool.and_eq_true _ _).mp h4
            have h6 := (Bool.and_eq_true _ _).mp h5.1
            exact ⟨of_ble h6.1, of_ble h6.2⟩
          · cases h4
        obtain ⟨h1, h2, h3⟩ := newRow_some h
        cases h3
        obtain ⟨i', zc, q1, q2, q3⟩ := zero_sound (θ := θ) hC hzv
        rw [g1] at q1; cases q1
        have hlv := eval_sound T hl
        have hcv := eval_sound T hc
        simp only [VR] at hlv hcv
        have hsz : zc.cells.size = i.size := by have := q3.cells.length; simp at this; omega
        refine ⟨s.next, _, h1, h2, rfl, rfl, by simp, fun w => ?_⟩
        have h48 : (i.bytes : Int) * (c' : Int) ≤ 281474976710656 := by
          have h6 := Int.ofNat_le.2 hb.1
          rw [Int.natCast_mul] at h6
          exact Int.le_trans h6 (by decide)
        have hrun := run_makeSlice (P := C.P) w t e i zc (under_sound hC hu) g1 q2 k k' (l' : Int) (c' : Int) (by omega) (by omega) (by rw [Int.toNat_natCast]; exact hb.2) h48 (by omega)
        rw [Int.toNat_natCast, Int.toNat_natCast] at hrun
        refine ⟨.cells (madeCells zc.cells (c' * i.size)) e, c' * i.size, .slice (some ⟨w.heap.size, 0, none⟩) l' c', ?_, fun θ' hle hb' => ⟨?_, ?_⟩⟩
        · rw [hlv, hcv]
          have e1' : (Int.ofNat l') = ((l' : Nat) : Int) := rfl
          have e2' : (Int.ofNat c') = ((c' : Nat) : Int) := rfl
          rw [e1', e2', Sem.run_bind, hrun]
          rfl
        · have hr := repeat_VRs (θ := θ') c' (VRs.mono hle _ _ q3.cells)
          rw [hsz] at hr
          have h7 := BR_row (e := e) (cb := w.heap.size) hr
          have h8 : ((Array.range (c' * i.size)).map fun j => zc.cells[j % i.size]!).size = c' * i.size := by simp
          rw [h8] at h7
          unfold madeCells
          rw [hsz]
          exact h7
        · simp only [VR]
          exact ⟨_, c', rfl, e1, Nat.le_refl _, _, hb', .inr ⟨by simp, by simp [← g2]⟩⟩
      · cases h
    · cases h
  · cases h
end
end Go.AM

namespace Go.AM
open Go.RowKit
section
variable {C : Cfg} {θ : Th} {lo base : Nat} {s s' : St} {w : World} {tm : Tr AVal} {nt : Nat} {ts : Array Value} {v : AVal}

theorem fill_size (pl : Nat → Option (Nat × Nat)) : ∀ (parts : List (Nat × Value)) (cs cs' : Array Value), Instr.fill pl cs parts = some cs' → cs'.size = cs.size
  | [], cs, cs', h => by simp [Instr.fill] at h; rw [h]
  | (i, v) :: r, cs, cs', h => by
    unfold Instr.fill at h
    split at h
    · cases h
    · split at h
      · cases h
      · rename_i off size _ hcond
        have := fill_size pl r _ _ h
        rw [this, ← Array.foldl_toList]
        have hf : off + 0 + v.cells.toList.length ≤ cs.size := by simp at hcond ⊢; omega
        have h2 := congrArg List.length (foldl_fill off v.cells.toList 0 cs hf)
        rw [Array.toList_zipIdx]
        simp at h2 hf ⊢
        omega

theorem opBuildSlice_sound (hC : CfgOK C) (T : TR θ tm nt ts) {t : TypeId} {len : Nat} {parts : Array (Nat × Operand)} (h : opBuildSlice C t len parts tm s = some (.val v s')) :
    ∃ b y, s.heap.get b = none ∧ C.lo ≤ b ∧ b = s.next ∧ s'.heap = s.heap.set b y ∧ y ≠ .dead ∧ Makes C.P θ (do pure (.value (← Instr.buildSlice t len (parts.map fun (i, x) => (i, ρ ts x))))) v b y := by
  unfold opBuildSlice at h
  split at h
  · rename_i e hu
    split at h
    · rename_i n z hn hz
      split at h
      · cases h
      · rename_i hcond
        have hcond' : Nat.ble (len * n) 100000 = true ∧ Nat.beq z.cells.length n = true := by simpa using hcond
        have e1 := of_ble hcond'.1
        have e2 := of_nbeq hcond'.2
        split at h
        · rename_i l hl
          obtain ⟨h1, h2, h3⟩ := newRow_some h
          cases h3
          obtain ⟨i, g1, g2⟩ := sizeOf_sound hC hn
          obtain ⟨i', zc, q1, q2, q3⟩ := zero_sound (θ := θ) hC hz
          rw [g1] at q1; cases q1
          have hsz : zc.cells.size = n := by have := q3.cells.length; simp at this; omega
          have hr := repeat_VRs (θ := θ) len q3.cells
          obtain ⟨cs', k1, k2⟩ := fills_sound T _ _ _ _ _ hr hl
          have hcs := fill_size _ _ _ _ k1
          refine ⟨s.next, _, h1, h2, rfl, rfl, by simp, fun w => ?_⟩
          refine ⟨.cells cs' e, cs'.size, .slice (some ⟨w.heap.size, 0, none⟩) len len, ?_, fun θ' hle hb' => ⟨BR_row (VRs.mono hle _ _ k2), ?_⟩⟩
          · by_cases hpos : len * i.size = 0
            · have hz0 : len * zc.cells.size = 0 := by rw [hsz, ← g2]; exact hpos
              have e3 : ((Array.range (len * zc.cells.size)).map fun i => zc.cells[i % zc.cells.size]!) = #[] := by rw [hz0]; simp
              rw [e3] at k1
              have hsm : ¬ len * i.size > 2 ^ 24 := by rw [hpos]; decide
              have k1' : Instr.fill (fun j => some (j * i.size, i.size)) (Array.map (fun _ => (default : Value)) (Array.range 0)) (List.map (fun x => (x.fst, ρ ts x.snd)) parts.toList) = some cs' := by
                have e4 : Array.map (fun _ => (default : Value)) (Array.range 0) = #[] := by simp
                rw [e4, g2]
                exact k1
              simp [Instr.buildSlice, run_underlying (under_sound hC hu), Go.sizeOf, typeInfo, Go.zeroValue, g1, q2, hpos, Go.newRow]
              rw [k1']
              simp
            · have hsm : ¬ len * i.size > 2 ^ 24 := by rw [g2]; have : (100000 : Nat) ≤ 2 ^ 24 := by decide
                                                       omega
              have := run_buildSlice (P := C.P) w t e len (parts.map fun (i, x) => (i, ρ ts x)) cs' i zc (under_sound hC hu) g1 q2 hsm hpos (by rw [← k1, g2, hsz]; simp)
              simp [this]
          · simp only [VR]
            refine ⟨_, len, rfl, Nat.le_refl _, Nat.le_refl _, _, hb', .inr ⟨by simp, ?_⟩⟩
            simp [hcs, hsz]
        · cases h
    · cases h
  · cases h

/-! ### writing memory -/
/-- what an operation comes to -/
def NV (θ : Th) (v : AVal) (nx : Next) : Prop := (∃ v', nx = .value v' ∧ VR θ v v') ∨ (nx = .skip ∧ v = .tuple [])
def OkV (P : Program) (θ : Th) (lo base : Nat) (h : Tr ABlk) (w : World) (x : Sem Next) (v : AVal) (h' : Tr ABlk) : Prop :=
  ∃ θ' w' nx, x.run P w = .ok nx w' ∧ NV θ' v nx ∧ WR θ' lo base h' w' ∧ Ext θ θ' base h h' w w'

theorem set_pend {h : Tr ABlk} {b : Nat} {x : ABlk} (hb : θ b ≠ none) : ∀ c y, θ c = none → h.get c = some y → (h.set b x).get c = some y ∧ θ c = none := by
  intro c y h1 h2
  rw [Tr.get_set, if_neg (by rintro rfl; exact hb h1)]
  exact ⟨h2, h1⟩

theorem Makes.okV {x : Sem Next} {v : AVal} {b : Nat} {y : ABlk} (W : WR θ lo base s.heap w) (hb : s.heap.get b = none) (hh : s'.heap = s.heap.set b y) (hm : Makes C.P θ x v b y) :
    OkV C.P θ lo base s.heap w x v s'.heap := by
  obtain ⟨o, csz, v', h1, h2⟩ := hm w
  have hθ := W.none_of_new hb
  have hle := Th.le_upd (L := ⟨w.heap.size, 0, csz⟩) hθ
  obtain ⟨g1, g2⟩ := h2 _ hle (Th.upd_self _ _ _)
  refine ⟨θ.upd b ⟨w.heap.size, 0, csz⟩, _, _, h1, .inl ⟨v', rfl, g2⟩, ?_, hle, ?_, (Below.refl _ _).alloc W.size _⟩
  · rw [hh]
    exact (W.pend hθ y).made hθ (by rw [Tr.get_set, if_pos rfl]) o csz g1
  · intro c z h3 h4
    have hne : c ≠ b := by rintro rfl; rw [hb] at h4; cases h4
    rw [hh, Tr.get_set, if_neg hne]
    refine ⟨h4, ?_⟩
    unfold Th.upd
    rw [if_neg hne]; exact h3

theorem flat_one {θ : Th} {a : AVal} {v : Value} (h : VR θ a v) (hf : a.flat = true) : v.oneCell' = true := by
  cases a <;> simp only [VR] at h <;> first
    | (simp [AVal.flat] at hf; done)
    | (subst h; rfl)
    | (obtain ⟨_, rfl, _⟩ := h; rfl)
    | (obtain ⟨_, _, rfl⟩ := h; rfl)
    | (obtain ⟨_, _, rfl, _⟩ := h; rfl)

theorem setCells_heap (b : Nat) : ∀ (vs : List Value) (o : Nat) (w : World) (c : Array Value) (e : TypeId) (f : Nat × Nat), w.heap[b]? = some (.cells c e f) → o + vs.length ≤ c.size →
    (w.setCells b o vs).heap[b]? = some (.cells ((vs.zipIdx 0).foldl (fun cs (x : Value × Nat) => cs.setIfInBounds (o + x.2) x.1) c) e f) ∧ (∀ k, k ≠ b → (w.setCells b o vs).heap[k]? = w.heap[k]?) ∧ (w.setCells b o vs).heap.size = w.heap.size ∧
    (w.setCells b o vs).os = w.os ∧ (w.setCells b o vs).tape = w.tape ∧ (w.setCells b o vs).output = w.output
  | [], o, w, c, e, f, h, _ => ⟨by simpa [World.setCells] using h, fun _ _ => rfl, rfl, rfl, rfl, rfl⟩
  | v :: r, o, w, c, e, f, h, hle => by
    have h1 : (w.setCell ⟨b, o, none⟩ v).heap[b]? = some (.cells (c.setIfInBounds o v) e f) := by
      simp only [World.setCell, Array.getElem?_modify, if_true, h, Option.map_some]
      simp
    have h2 := setCells_heap b r (o + 1) (w.setCell ⟨b, o, none⟩ v) _ e f h1 (by simp at hle ⊢; omega)
    obtain ⟨g1, g2, g3, g4, g5, g6⟩ := h2
    refine ⟨?_, fun k hk => ?_, ?_, g4, g5, g6⟩
    · show ((w.setCell ⟨b, o, none⟩ v).setCells b (o + 1) r).heap[b]? = _
      rw [g1]
      simp only [List.zipIdx_cons, List.foldl_cons, Nat.add_zero]
      congr 2
      have : ∀ (l : List Value) (j : Nat) (cs : Array Value), (l.zipIdx j).foldl (fun cs (x : Value × Nat) => cs.setIfInBounds (o + 1 + x.2) x.1) cs = (l.zipIdx (j + 1)).foldl (fun cs (x : Value × Nat) => cs.setIfInBounds (o + x.2) x.1) cs := by
        intro l
        induction l with
        | nil => intro j cs; rfl
        | cons y q ih =>
          intro j cs
          simp only [List.zipIdx_cons, List.foldl_cons]
          rw [ih, show o + 1 + j = o + (j + 1) by omega]
      exact this r 0 _
    · show ((w.setCell ⟨b, o, none⟩ v).setCells b (o + 1) r).heap[k]? = _
      rw [g2 k hk]
      exact Below.heap_setCell w ⟨b, o, none⟩ v k hk
    · show ((w.setCell ⟨b, o, none⟩ v).setCells b (o + 1) r).heap.size = _
      rw [g3]
      simp [World.setCell]

/-- cells of a block are written -/
theorem storeCells_sound (W : WR θ lo base s.heap w) {b off : Nat} {vs : List AVal} {us : List Value} {L : Loc} {e : TypeId} {n : Nat} {t : Tr AVal} (hlo : lo ≤ b) (hb : s.heap.get b = some (.row e n t)) (hθ : θ b = some L)
    (hfit : off + vs.length ≤ n) (hv : VRs θ vs us) :
    WR θ lo base (s.heap.set b (.row e n (t.setL off vs))) (w.setCells L.cb (off + L.sh) us) ∧ Below base w (w.setCells L.cb (off + L.sh) us) ∧
    (∀ j, j < us.length → (w.cell? ⟨L.cb, off + L.sh + j, none⟩).isSome = true) ∧ (∀ j, j < us.length → w.frozen? ⟨L.cb, off + L.sh + j, none⟩ = false) := by
  obtain ⟨c, g1, g2, g3, g4⟩ := W.blk _ _ _ hb hθ
  have hlen := hv.length
  obtain ⟨k1, k2, k3, k4, k5, k6⟩ := setCells_heap L.cb us (off + L.sh) w c e (0, 0) g1 (by omega)
  have hcb := W.own _ _ _ hlo hb hθ (by simp)
  refine ⟨W.update hlo hb (by simp) hθ k2 k3 ?_, ⟨k4, k5, k6, by omega, fun k hk => k2 k (by omega)⟩, fun j hj => ?_, fun j hj => ?_⟩
  · rw [k1]
    have hf := foldl_fill (off + L.sh) us 0 c (by omega)
    rw [Nat.add_zero] at hf
    generalize hc' : (us.zipIdx 0).foldl (fun cs (x : Value × Nat) => cs.setIfInBounds (off + L.sh + x.2) x.1) c = c' at hf
    have hs : c'.size = c.size := by
      have := congrArg List.length hf
      simp at this
      omega
    refine ⟨c', rfl, by omega, by omega, fun i hi => ?_⟩
    obtain ⟨a, v, q1, q2, q3⟩ := g4 i hi
    rw [Tr.get_setL]
    by_cases hin : off ≤ i ∧ i < off + vs.length
    · rw [if_pos hin]
      have hlt : i - off < vs.length := by omega
      obtain ⟨u, r1, r2⟩ := hv.get (i - off) _ (List.getElem?_eq_getElem hlt)
      refine ⟨_, u, List.getElem?_eq_getElem hlt, ?_, r2⟩
      rw [← Array.getElem?_toList, hf]
      rw [List.append_assoc, List.getElem?_append_right (by simp; omega)]
      simp only [List.length_take, Array.length_toList]
      rw [List.getElem?_append_left (by omega), show L.sh + i - min (off + L.sh) c.size = i - off by omega]
      exact r1
    · rw [if_neg hin]
      refine ⟨a, v, q1, ?_, q3⟩
      rw [← Array.getElem?_toList, hf]
      by_cases hl : i < off
      · rw [List.append_assoc, List.getElem?_append_left (by simp; omega), List.getElem?_take, if_pos (by omega)]
        simpa using q2
      · rw [List.getElem?_append_right (by simp; omega)]
        simp only [List.length_append, List.length_take, Array.length_toList, List.getElem?_drop]
        rw [show off + L.sh + us.length + (L.sh + i - (min (off + L.sh) c.size + us.length)) = L.sh + i by omega]
        simpa using q2
  · simp only [World.cell?, g1]
    simp
    omega
  · simp [World.frozen?, g1]
end
end Go.AM
