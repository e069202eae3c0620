/- reticulelaw24.EngineNone answers true at every number and every slice of bytes, and leaves what was there as it was. Without conditions. -/
import Derived.Test.YtkkieaphblcjjaaGreatChecked
import Derived.WalkKit
import Derived.Below
import Derived.Test.YtkkieaphblcjjaaGreatF
import Derived.Test.YtkkieaphblcjjaaGreatKa
import Derived.Test.YtkkieaphblcjjaaGreatKb
import Derived.Test.YtkkieaphblcjjaaGreatKc

namespace Go.AM
open Go.RowKit
theorem memo_of_is {C : Cfg} (hC : CfgOK C) (hmix : C.P.follows .mixedOrders = true) (hm : ∀ mm ∈ C.memo, mm.OK C.P) {lvl fuel : Nat} {f : FuncId} {args : List AVal} {blks : List (Nat × ABlk)} {r : AVal}
    (h : runIs C lvl fuel f args blks r = true) (hlo : blks.all (fun p => Nat.blt p.1 C.lo) = true) : Memo.OK C.P ⟨f, args, blks, r⟩ := by
  unfold runIs at h
  split at h
  · rename_i v hv
    rw [Bool.and_eq_true] at h
    have e := beqV_eq _ _ _ h.1
    subst e
    exact memo_of_run hC hmix hm hv h.2 hlo
  · cases h
/-- a call without addresses -/
theorem calls_plain {P : Program} {f : FuncId} {args : List AVal} {r : AVal} {args' : Array Value} {v : Value} (h : Memo.OK P ⟨f, args, [], r⟩) (hA : VRs (fun _ => none) args args'.toList)
    (hr : ∀ v', VR (fun _ => none) r v' → v' = v) (w : World) : Calls P f args' w fun e w' => e = .returned v ∧ Below w.heap.size w w' := by
  intro cs
  obtain ⟨w', fr', v', h1, h2, h3, h4, h5⟩ := h (fun _ => none) w args' (fun b x hx => by simp at hx) (fun b L hb => by cases hb) hA cs
  have := hr _ (h4 _)
  subst this
  exact ⟨.returned v', w', fr', ⟨rfl, h5⟩, h1, h3, h2⟩
end Go.AM
namespace Go.Proofs.YtkkieaphblcjjaaGreat
open Go.RowKit Go.AM

theorem names_ok : (Tryz.prog.funcs.toList.all fun fn => !(fn.name == "runtime.NumGoroutine")) = true := by decide +kernel
theorem plain_ok : (PL.all fun t => !(Tryz.prog.stoodInHeld t) && !(Tryz.prog.eqGuardType Tryz.prog.depth t)) = true := by decide +kernel
theorem mix_ok : Tryz.prog.follows .mixedOrders = true := by decide +kernel
theorem cc_ok (lo : Nat) (memo : List Memo) : CfgOK (CC lo memo) := cfg_ok names_ok plain_ok
theorem nil_arg : VRs (fun _ => none) [AVal.nilptr] (#[Value.pointer none] : Array Value).toList := VRs.cons (by simp only [VR]) VRs.nil
theorem nil_memo {f : FuncId} {r : AVal} (h : runIs (CC 0 []) 1 1000 f [.nilptr] [] r = true) : Memo.OK Tryz.prog ⟨f, [.nilptr], [], r⟩ :=
  memo_of_is (C := CC 0 []) (cc_ok 0 []) mix_ok (fun _ h => by cases h) h rfl
theorem ask_int {f : FuncId} {n : Int} (h : runIs (CC 0 []) 1 1000 f [.nilptr] [] (.int .i64 n) = true) (w : World) : Calls Tryz.prog f #[.pointer none] w fun e w' => e = .returned (.int .i64 n) ∧ Below w.heap.size w w' :=
  calls_plain (nil_memo h) nil_arg (fun v' hv => by simpa only [VR] using hv) w
theorem ask_bool {f : FuncId} {b : Bool} (h : runIs (CC 0 []) 1 1000 f [.nilptr] [] (.bool b) = true) (w : World) : Calls Tryz.prog f #[.pointer none] w fun e w' => e = .returned (.bool b) ∧ Below w.heap.size w w' :=
  calls_plain (nil_memo h) nil_arg (fun v' hv => by simpa only [VR] using hv) w
theorem ask_nil {f : FuncId} (h : runIs (CC 0 []) 1 1000 f [.nilptr] [] .nilptr = true) (w : World) : Calls Tryz.prog f #[.pointer none] w fun e w' => e = .returned (.pointer none) ∧ Below w.heap.size w w' :=
  calls_plain (nil_memo h) nil_arg (fun v' hv => by simpa only [VR] using hv) w
theorem ask_slice {f : FuncId} (h : runIs (CC 0 []) 1 1000 f [.nilptr] [] .nilslice = true) (w : World) : Calls Tryz.prog f #[.pointer none] w fun e w' => e = .returned (.slice none 0 0) ∧ Below w.heap.size w w' :=
  calls_plain (nil_memo h) nil_arg (fun v' hv => by simpa only [VR] using hv) w
theorem k8 : runIs (CC 0 []) 1 1000 8 [.nilptr] [] (.int .i64 1) = true := by decide +kernel
theorem k9 : runIs (CC 0 []) 1 1000 9 [.nilptr] [] (.bool false) = true := by decide +kernel
theorem k10 : runIs (CC 0 []) 1 1000 10 [.nilptr] [] (.int .i64 0) = true := by decide +kernel
theorem k11 : runIs (CC 0 []) 1 1000 11 [.nilptr] [] (.int .i64 0) = true := by decide +kernel
theorem k12 : runIs (CC 0 []) 1 1000 12 [.nilptr] [] .nilptr = true := by decide +kernel
theorem k13 : runIs (CC 0 []) 1 1000 13 [.nilptr] [] .nilslice = true := by decide +kernel
theorem k14 : runIs (CC 0 []) 1 1000 14 [.nilptr] [] (.int .i64 0) = true := by decide +kernel
theorem k15 : runIs (CC 0 []) 1 1000 15 [.nilptr] [] (.int .i64 0) = true := by decide +kernel
theorem k16 : runIs (CC 0 []) 1 1000 16 [.nilptr] [] .nilslice = true := by decide +kernel
theorem k17 : runIs (CC 0 []) 1 1000 17 [.nilptr] [] .nilptr = true := by decide +kernel
theorem k5 : runIs (CC 0 []) 1 1000 5 [.nilptr] [] (.tuple [.nilslice, .int .i64 1]) = true := by decide +kernel
theorem save_nil (w : World) : Calls Tryz.prog 5 #[.pointer none] w fun e w' => e = .returned (.tuple #[.slice none 0 0, .int .i64 1]) ∧ Below w.heap.size w w' := by
  refine calls_plain (nil_memo k5) nil_arg (fun v' hv => ?_) w
  simp only [VR, VRs] at hv
  obtain ⟨cs, rfl, a, r, h1, rfl, b, r', rfl, rfl, rfl⟩ := hv
  congr 1
  exact Array.toList_inj.1 h1
set_option maxHeartbeats 400000 in
theorem run_nil (n : Int) (w : World) : Calls Tryz.prog 4 #[.pointer none, .int .i64 n] w fun e w' => e = .returned (.tuple #[.int .i64 0, .int .i64 1]) ∧ Below w.heap.size w w' := by
  go_enter Tryz.func4, Tryz.ntmps4
  go_wp2
  go_ret2
  exact ⟨rfl, Below.refl _ _⟩
set_option maxHeartbeats 400000 in
theorem load_nil (c s : Array Value) (b : Option Addr) (len cap : Nat) (w : World) : Calls Tryz.prog 6 #[.agg c, .pointer none, .agg s, .slice b len cap] w fun e w' => e = .returned (.tuple #[.pointer none, .int .i64 3]) ∧ Below w.heap.size w w' := by
  by_cases hlt : len < 21
  all_goals
    go_enter Tryz.func6, Tryz.ntmps6
    go_wp2
    go_ret2
    refine ⟨rfl, ?_⟩
    first
      | exact Below.refl _ _
      | exact (Below.refl _ _).alloc (Nat.le_refl _) _
      | exact ((Below.refl _ _).alloc (Nat.le_refl _) _).alloc (by simp) _
      | exact (((Below.refl _ _).alloc (Nat.le_refl _) _).alloc (by simp) _).alloc (by simp) _
set_option maxRecDepth 100000 in
set_option maxHeartbeats 1000000 in
theorem law_true (hlive : ∀ w, Calls Tryz.prog 7 #[] w fun e w' => e = .returned (.bool true) ∧ Below w.heap.size w w') (n : Int) (b : Option Addr) (len cap : Nat) (w : World) :
    Calls Tryz.prog 3 #[.int .i64 n, .slice b len cap] w fun e w' => e = .returned (.bool true) ∧ Below w.heap.size w w' := by
  go_enter Tryz.func3, Tryz.ntmps3
  go_wp2_with (first
    | (go_at_call 4; refine (run_nil _ _).mono ?_; rintro e w4 ⟨rfl, hb4⟩)
    | (go_at_call 5; refine (save_nil _).mono ?_; rintro e w5 ⟨rfl, hb5⟩)
    | (go_at_call 6; refine (load_nil _ _ _ _ _ _).mono ?_; rintro e w6 ⟨rfl, hb6⟩)
    | (go_at_call 7; refine (hlive _).mono ?_; rintro e w7 ⟨rfl, hb7⟩)
    | (go_at_call 8; refine (ask_int k8 _).mono ?_; rintro e w8 ⟨rfl, hb8⟩)
    | (go_at_call 9; refine (ask_bool k9 _).mono ?_; rintro e w9 ⟨rfl, hb9⟩)
    | (go_at_call 10; refine (ask_int k10 _).mono ?_; rintro e w10 ⟨rfl, hb10⟩)
    | (go_at_call 11; refine (ask_int k11 _).mono ?_; rintro e w11 ⟨rfl, hb11⟩)
    | (go_at_call 12; refine (ask_nil k12 _).mono ?_; rintro e w12 ⟨rfl, hb12⟩)
    | (go_at_call 13; refine (ask_slice k13 _).mono ?_; rintro e w13 ⟨rfl, hb13⟩)
    | (go_at_call 14; refine (ask_int k14 _).mono ?_; rintro e w14 ⟨rfl, hb14⟩)
    | (go_at_call 15; refine (ask_int k15 _).mono ?_; rintro e w15 ⟨rfl, hb15⟩)
    | (go_at_call 16; refine (ask_slice k16 _).mono ?_; rintro e w16 ⟨rfl, hb16⟩)
    | (go_at_call 17; refine (ask_nil k17 _).mono ?_; rintro e w17 ⟨rfl, hb17⟩))
  go_ret
  refine ⟨rfl, ?_⟩
  have h4 := hb4
  have h5 := h4.trans (hb5.mono h4.size)
  have h6 := h5.trans (hb6.mono h5.size)
  have h7 := h6.trans (hb7.mono h6.size)
  have h8 := h7.trans (hb8.mono h7.size)
  have h9 := h8.trans (hb9.mono h8.size)
  have h10 := h9.trans (hb10.mono h9.size)
  have h11 := h10.trans (hb11.mono h10.size)
  have h12 := h11.trans (hb12.mono h11.size)
  have h13 := h12.trans (hb13.mono h12.size)
  have h14 := h13.trans (hb14.mono h13.size)
  have h15 := h14.trans (hb15.mono h14.size)
  have h16 := h15.trans (hb16.mono h15.size)
  have h17 := h16.trans (hb17.mono h16.size)
  exact h17

theorem memo9 : Memo.OK Tryz.prog ⟨157, aSound, bSound9, .bool true⟩ := memo_of_is (C := CC 10 []) (cc_ok 10 []) mix_ok (fun _ h => by cases h) sound9 (by decide +kernel)
theorem memoS : Memo.OK Tryz.prog ⟨140, aSound, bSound, .bool true⟩ := memo_of_is (C := CC 10 []) (cc_ok 10 []) mix_ok (fun _ h => by cases h) sound (by decide +kernel)
theorem memoL : Memo.OK Tryz.prog ⟨7, [], [], .bool true⟩ := memo_of_is (C := CC 0 memos) (cc_ok 0 memos) mix_ok (fun mm h => by
  have h : mm ∈ [(⟨157, aSound, bSound9, .bool true⟩ : Memo), ⟨140, aSound, bSound, .bool true⟩] := h
  rcases List.mem_cons.1 h with rfl | h
  · exact memo9
  · rw [List.mem_singleton.1 h]; exact memoS) live rfl
theorem none_true (n : Int) (b : Option Addr) (len cap : Nat) (w : World) : Calls Tryz.prog 3 #[.int .i64 n, .slice b len cap] w fun e w' => e = .returned (.bool true) ∧ Below w.heap.size w w' :=
  law_true (calls_bool memoL) n b len cap w
end Go.Proofs.YtkkieaphblcjjaaGreat
