/- The shape laws: an instruction. -/
import Derived.Test.YtollibkfagjnaaaShapeWalk
set_option linter.unusedVariables false
set_option linter.unusedSimpArgs false
set_option maxRecDepth 10000
namespace Go.Proofs.Ytollibkfagjnaaa.Shape
open Go.Proofs.Ytollibkfagjnaaa.AM
def roomSpec (m : Md) (f op : Int) : Int :=
  if 1 ≤ op ∧ op ≤ 17 then 1 else
  if op = 32 then -1 else
  if op = 33 ∨ op = 34 then locSpec m f else
  if op = 35 ∨ op = 36 then (m.gs.length : Nat) else
  if op = 37 ∨ op = 38 then (m.arrays.length : Nat) else
  if op = 39 ∨ op = 40 ∨ op = 41 ∨ op = 42 ∨ op = 46 then 1 else
  if op = 43 ∨ op = 44 then ((fnOf m f).code.length : Nat) else
  if op = 45 then (m.fns.length : Nat) else
  if op = 47 then (m.chans.length : Nat) else -2
def instrSpec (m : Md) (f op a : Int) : Int :=
  if ¬ (0 ≤ f ∧ f < m.fns.length) then 1 else
  if roomSpec m f op = -2 then 100 else
  if 0 ≤ roomSpec m f op ∧ (a < 0 ∨ roomSpec m f op ≤ a) then 130 else 0
def tail16 : ACode := .seq (.seq (.region [⟨.faddr 1 (.tmp 4), none, 0⟩, ⟨.load none (.loc 0), none, 0⟩, ⟨.bin .lss (.loc 0) (.const (.int .i64 0)), none, 0⟩, ⟨.faddr 1 (.tmp 4), (some ((.loc 0), false)), 0⟩, ⟨.load none (.loc 0), (some ((.loc 1), false)), 0⟩, ⟨.mov (.tmp 6), (some ((.loc 2), false)), 0⟩, ⟨.bin .geq (.loc 1) (.loc 0), (some ((.loc 3), false)), 0⟩, ⟨.pick (.loc 4) (.const (.bool true)) (.loc 0), none, 0⟩] [(22, (.loc 0))])
   (.cond (.tmp 22)
    (.seq (.region [] [(5, (.const (.int .i64 130)))])
     (.ret))
    (.skip)))
  (.seq (.region [] [(5, (.const (.int .i64 0)))])
  (.ret))
theorem tail_ok {H : AH TV} {n : Nat} {op a most : Int} {Q : Res TV → Prop} {x0 x1 x2 x3 x5 x7 x8 x9 x10 x11 x12 x13 x14 x15 x16 x17 x18 x19 x20 x21 x22 : Value} (g : Vec.get H (n + 1) = some (.arr [.int .i64 op, .int .i64 a] true 0))
    (hq : ∀ T, T[5]? = some (.int .i64 (if a < 0 ∨ most ≤ a then 130 else 0)) → Q ⟨.ret, T, H, [], undef⟩) :
    ARuns E (.code false tail16 [x0, x1, x2, x3, .pointer (some ⟨n + 1, 0, none⟩), x5, .int .i64 most, x7, x8, x9, x10, x11, x12, x13, x14, x15, x16, x17, x18, x19, x20, x21, x22] H []) Q := by
  unfold tail16
  have bad : ∀ (Q2 : List Value → AH TV → Prop), (∀ L, Q2 (.bool (decide (a < 0 ∨ most ≤ a)) :: L) H) → AOps E [x0, x1, x2, x3, .pointer (some ⟨n + 1, 0, none⟩), x5, .int .i64 most, x7, x8, x9, x10, x11, x12, x13, x14, x15, x16, x17, x18, x19, x20, x21, x22] [⟨.faddr 1 (.tmp 4), none, 0⟩, ⟨.load none (.loc 0), none, 0⟩, ⟨.bin .lss (.loc 0) (.const (.int .i64 0)), none, 0⟩, ⟨.faddr 1 (.tmp 4), (some ((.loc 0), false)), 0⟩, ⟨.load none (.loc 0), (some ((.loc 1), false)), 0⟩, ⟨.mov (.tmp 6), (some ((.loc 2), false)), 0⟩, ⟨.bin .geq (.loc 1) (.loc 0), (some ((.loc 3), false)), 0⟩, ⟨.pick (.loc 4) (.const (.bool true)) (.loc 0), none, 0⟩] [] H Q2 := by
    intro Q2 hQ
    refine ops_cons rfl (does_val rfl ?_)
    refine ops_cons rfl (does_load (v := .int .i64 a) rfl g rfl ?_)
    by_cases h0 : a < 0
    · refine ops_cons rfl (does_val (v := .bool true) (by show some (Value.bool (decide _), _) = _; simp [h0]) ?_)
      refine ops_not rfl (ops_not rfl (ops_not rfl (ops_not rfl ?_)))
      refine ops_cons rfl (does_val rfl (ops_nil ?_))
      have := hQ
      rw [decide_eq_true (show a < 0 ∨ most ≤ a from .inl h0)] at this
      exact this _
    · refine ops_cons rfl (does_val (v := .bool false) (by show some (Value.bool (decide _), _) = _; simp; omega) ?_)
      refine ops_cons rfl (does_val rfl ?_)
      refine ops_cons rfl (does_load (v := .int .i64 a) rfl g rfl ?_)
      refine ops_cons rfl (does_val rfl ?_)
      refine ops_cons rfl (does_val (v := .bool (decide (a < 0 ∨ most ≤ a))) (by
        show some (Value.bool (decide (a ≥ most)), _) = _
        congr 3
        rw [decide_eq_decide]
        omega) ?_)
      exact ops_cons rfl (does_val rfl (ops_nil (hQ _)))
  refine seq_assoc (seq_region (bad _ fun L => ⟨[x0, x1, x2, x3, .pointer (some ⟨n + 1, 0, none⟩), x5, .int .i64 most, x7, x8, x9, x10, x11, x12, x13, x14, x15, x16, x17, x18, x19, x20, x21, .bool (decide (a < 0 ∨ most ≤ a))], rfl, ?_⟩))
  by_cases hb : a < 0 ∨ most ≤ a
  · refine seq_cond true (by show some (Value.bool (decide _)) = _; simp [hb]) ?_
    refine seq_assoc (seq_region (ops_nil ⟨_, rfl, ?_⟩))
    refine seq_ret (hq _ ?_)
    show some (Value.int .i64 130) = _
    rw [if_pos hb]
  · refine seq_cond false (by show some (Value.bool (decide _)) = _; simp [hb]) (seq_skip ?_)
    refine seq_region (ops_nil ⟨_, rfl, ?_⟩)
    refine runs_ret (hq _ ?_)
    show some (Value.int .i64 0) = _
    rw [if_neg hb]
set_option maxHeartbeats 4000000 in
theorem sinstr_ok {v : Value} {H : AH TV} {m : Md} {f op a : Int} (h : MdAt H v m) (hf : MdFits m) : ARuns E (.call 95 [v, .int .i64 f, .agg #[.int .i64 op, .int .i64 a]] H) fun r => r.v = .int .i64 (instrSpec m f op a) ∧ Keeps H r.H := by
  obtain ⟨vg, va, vc, vf, rfl, h1, h2, h3, h4⟩ := h
  obtain ⟨ag, cg, eg⟩ := lenU h1
  obtain ⟨aa, ca, ea⟩ := lenSA h2
  obtain ⟨ac, cc, ec⟩ := lenU h3
  obtain ⟨af, cf, ef⟩ := h4.len
  obtain ⟨n, hn⟩ : ∃ n, Vec.size H = n := ⟨_, rfl⟩
  refine runs_call rfl rfl ?_
  refine seq_region ?_
  refine ops_cons rfl (does_box (cs := [vg, va, vc, vf]) rfl (by subst eg ea ec ef; rfl) hn fun H1 z1 k1 g0 => ?_)
  refine ops_cons rfl (does_box (cs := [.int .i64 op, .int .i64 a]) rfl rfl z1 fun H2 z2 k2 gi => ops_nil ⟨_, rfl, ?_⟩)
  have g1 := k2.some g0
  have k := k1.trans k2
  have hm : MdAt H2 (.agg #[vg, va, vc, vf]) m := ⟨_, _, _, _, rfl, h1.ext k, h2.ext k, h3.ext k, h4.ext k⟩
  refine seq_assoc (seq_region (range_ok rfl rfl (by rw [ef] at g1; exact g1) fun L => ⟨_, rfl, ?_⟩))
  by_cases hr : 0 ≤ f ∧ f < m.fns.length
  case neg =>
    refine seq_cond true (by show some (Value.bool (decide _)) = _; simp [hr]) ?_
    refine seq_assoc (seq_region (ops_nil ⟨_, rfl, ?_⟩))
    refine seq_ret ⟨.inr rfl, _, _, rfl, rfl, ?_, k⟩
    show Value.int .i64 1 = _
    rw [instrSpec, if_pos hr]
  refine seq_cond false (by show some (Value.bool (decide _)) = _; simp [hr]) (seq_skip ?_)
  refine seq_region (ops_nil ⟨_, rfl, ?_⟩)
  refine seq_assoc (seq_region ?_)
  refine ops_cons rfl (does_val rfl ?_)
  refine ops_cons rfl (does_load (v := .int .i64 op) rfl gi rfl (ops_nil ⟨[(.agg #[vg, va, vc, vf]), (.int .i64 f), (.agg #[.int .i64 op, .int .i64 a]), (.pointer (some ⟨n, 0, none⟩)), (.pointer (some ⟨n + 1, 0, none⟩)), (.int .i64 0), (.int .i64 1), (.bool false), (.int .i64 op), undef, undef, undef, undef, undef, undef, undef, undef, undef, undef, undef, undef, undef, undef], by rw [decide_eq_false (by simp [hr])]; rfl, ?_⟩))
  refine seq_block (seq_block (seq_block (seq_block (seq_block (seq_block (runs_block (seq_block (runs_block (seq_block (runs_block (seq_block (runs_block (seq_block ?_)))))))))))))
  refine seq_assoc (seq_assoc ?_)
  by_cases h32 : op = 32
  · refine seq_region (ops_cons rfl (does_val (v := .bool true) (by show some (Value.bool (op == _), _) = _; simp [h32]) (ops_nil ⟨[(.agg #[vg, va, vc, vf]), (.int .i64 f), (.agg #[.int .i64 op, .int .i64 a]), (.pointer (some ⟨n, 0, none⟩)), (.pointer (some ⟨n + 1, 0, none⟩)), (.int .i64 0), (.int .i64 1), (.bool false), (.int .i64 op), (.bool true), undef, undef, undef, undef, undef, undef, undef, undef, undef, undef, undef, undef, undef], rfl, ?_⟩)))
    refine seq_cond true rfl (seq_exit ?_)
    show ARuns E _ _
    refine seq_assoc (seq_region (ops_nil ⟨_, rfl, ?_⟩))
    refine seq_ret ⟨.inr rfl, _, _, rfl, rfl, ?_, k⟩
    show Value.int .i64 0 = _
    simp [instrSpec, hr, roomSpec, h32]
  refine seq_region (ops_cons rfl (does_val (v := .bool false) (by show some (Value.bool (op == _), _) = _; simp [h32]) (ops_nil ⟨[(.agg #[vg, va, vc, vf]), (.int .i64 f), (.agg #[.int .i64 op, .int .i64 a]), (.pointer (some ⟨n, 0, none⟩)), (.pointer (some ⟨n + 1, 0, none⟩)), (.int .i64 0), (.int .i64 1), (.bool false), (.int .i64 op), (.bool false), undef, undef, undef, undef, undef, undef, undef, undef, undef, undef, undef, undef, undef], rfl, ?_⟩)))
  refine seq_cond false rfl (seq_skip ?_)
  refine seq_assoc (seq_assoc ?_)
  by_cases h33 : op = 33
  · refine seq_region (ops_cons rfl (does_val (v := .bool true) (by show some (Value.bool (op == _), _) = _; simp [h33]) (ops_nil ⟨[(.agg #[vg, va, vc, vf]), (.int .i64 f), (.agg #[.int .i64 op, .int .i64 a]), (.pointer (some ⟨n, 0, none⟩)), (.pointer (some ⟨n + 1, 0, none⟩)), (.int .i64 0), (.int .i64 1), (.bool false), (.int .i64 op), (.bool false), (.bool true), undef, undef, undef, undef, undef, undef, undef, undef, undef, undef, undef, undef], rfl, ?_⟩)))
    refine seq_cond true rfl (seq_exit ?_)
    show ARuns E _ _
    refine seq_region ?_
    refine ops_cons rfl (does_load (v := .agg #[vg, va, vc, vf]) rfl g1 rfl ?_)
    refine ops_cons rfl (does_call rfl rfl ((locals_ok hm hf).mono ?_))
    rintro ⟨e9, T9, H3, ds9, v9⟩ ⟨rfl, k3⟩
    simp only at k3
    refine ops_nil ⟨[(.agg #[vg, va, vc, vf]), (.int .i64 f), (.agg #[.int .i64 op, .int .i64 a]), (.pointer (some ⟨n, 0, none⟩)), (.pointer (some ⟨n + 1, 0, none⟩)), (.int .i64 0), (.int .i64 (locSpec m f)), (.bool false), (.int .i64 op), (.bool false), (.bool true), undef, undef, undef, undef, undef, undef, undef, undef, undef, undef, undef, undef], rfl, ?_⟩
    have hl0 : 0 ≤ locSpec m f := by unfold locSpec; split <;> omega
    refine runs_exit ?_
    show ARuns E _ _
    refine tail_ok (most := (locSpec m f)) (k3.some gi) fun T hT => ?_
    refine ⟨.inr rfl, _, _, rfl, ares_tmp hT rfl, ?_, (k.trans k3)⟩
    show Value.int .i64 _ = _
    have hl2 : locSpec m f ≠ -2 := by omega
    simp [instrSpec, hr, roomSpec, h33, hl0, hl2]
  refine seq_region (ops_cons rfl (does_val (v := .bool false) (by show some (Value.bool (op == _), _) = _; simp [h33]) (ops_nil ⟨[(.agg #[vg, va, vc, vf]), (.int .i64 f), (.agg #[.int .i64 op, .int .i64 a]), (.pointer (some ⟨n, 0, none⟩)), (.pointer (some ⟨n + 1, 0, none⟩)), (.int .i64 0), (.int .i64 1), (.bool false), (.int .i64 op), (.bool false), (.bool false), undef, undef, undef, undef, undef, undef, undef, undef, undef, undef, undef, undef], rfl, ?_⟩)))
  refine seq_cond false rfl (seq_skip ?_)
  refine seq_assoc (seq_assoc ?_)
  by_cases h34 : op = 34
  · refine seq_region (ops_cons rfl (does_val (v := .bool true) (by show some (Value.bool (op == _), _) = _; simp [h34]) (ops_nil ⟨[(.agg #[vg, va, vc, vf]), (.int .i64 f), (.agg #[.int .i64 op, .int .i64 a]), (.pointer (some ⟨n, 0, none⟩)), (.pointer (some ⟨n + 1, 0, none⟩)), (.int .i64 0), (.int .i64 1), (.bool false), (.int .i64 op), (.bool false), (.bool false), (.bool true), undef, undef, undef, undef, undef, undef, undef, undef, undef, undef, undef], rfl, ?_⟩)))
    refine seq_cond true rfl (seq_exit ?_)
    show ARuns E _ _
    refine seq_region ?_
    refine ops_cons rfl (does_load (v := .agg #[vg, va, vc, vf]) rfl g1 rfl ?_)
    refine ops_cons rfl (does_call rfl rfl ((locals_ok hm hf).mono ?_))
    rintro ⟨e9, T9, H3, ds9, v9⟩ ⟨rfl, k3⟩
    simp only at k3
    refine ops_nil ⟨[(.agg #[vg, va, vc, vf]), (.int .i64 f), (.agg #[.int .i64 op, .int .i64 a]), (.pointer (some ⟨n, 0, none⟩)), (.pointer (some ⟨n + 1, 0, none⟩)), (.int .i64 0), (.int .i64 (locSpec m f)), (.bool false), (.int .i64 op), (.bool false), (.bool false), (.bool true), undef, undef, undef, undef, undef, undef, undef, undef, undef, undef, undef], rfl, ?_⟩
    have hl0 : 0 ≤ locSpec m f := by unfold locSpec; split <;> omega
    refine runs_exit ?_
    show ARuns E _ _
    refine tail_ok (most := (locSpec m f)) (k3.some gi) fun T hT => ?_
    refine ⟨.inr rfl, _, _, rfl, ares_tmp hT rfl, ?_, (k.trans k3)⟩
    show Value.int .i64 _ = _
    have hl2 : locSpec m f ≠ -2 := by omega
    simp [instrSpec, hr, roomSpec, h34, hl0, hl2]
  refine seq_region (ops_cons rfl (does_val (v := .bool false) (by show some (Value.bool (op == _), _) = _; simp [h34]) (ops_nil ⟨[(.agg #[vg, va, vc, vf]), (.int .i64 f), (.agg #[.int .i64 op, .int .i64 a]), (.pointer (some ⟨n, 0, none⟩)), (.pointer (some ⟨n + 1, 0, none⟩)), (.int .i64 0), (.int .i64 1), (.bool false), (.int .i64 op), (.bool false), (.bool false), (.bool false), undef, undef, undef, undef, undef, undef, undef, undef, undef, undef, undef], rfl, ?_⟩)))
  refine seq_cond false rfl (seq_skip ?_)
  refine seq_assoc (seq_assoc ?_)
  by_cases h35 : op = 35
  · refine seq_region (ops_cons rfl (does_val (v := .bool true) (by show some (Value.bool (op == _), _) = _; simp [h35]) (ops_nil ⟨[(.agg #[vg, va, vc, vf]), (.int .i64 f), (.agg #[.int .i64 op, .int .i64 a]), (.pointer (some ⟨n, 0, none⟩)), (.pointer (some ⟨n + 1, 0, none⟩)), (.int .i64 0), (.int .i64 1), (.bool false), (.int .i64 op), (.bool false), (.bool false), (.bool false), (.bool true), undef, undef, undef, undef, undef, undef, undef, undef, undef, undef], rfl, ?_⟩)))
    refine seq_cond true rfl (seq_exit ?_)
    show ARuns E _ _
    refine seq_region ?_
    refine ops_cons rfl (does_val rfl ?_)
    refine ops_cons rfl (does_load (v := vg) rfl g1 rfl ?_)
    refine ops_cons rfl (does_val (v := .int .i64 ((m.gs.length : Nat) : Int)) (by rw [eg]; rfl) (ops_nil ⟨[(.agg #[vg, va, vc, vf]), (.int .i64 f), (.agg #[.int .i64 op, .int .i64 a]), (.pointer (some ⟨n, 0, none⟩)), (.pointer (some ⟨n + 1, 0, none⟩)), (.int .i64 0), (.int .i64 ((m.gs.length : Nat) : Int)), (.bool false), (.int .i64 op), (.bool false), (.bool false), (.bool false), (.bool true), undef, undef, undef, undef, undef, undef, undef, undef, undef, undef], rfl, ?_⟩))
    refine runs_exit ?_
    show ARuns E _ _
    refine tail_ok (most := ((m.gs.length : Nat) : Int)) gi fun T hT => ?_
    refine ⟨.inr rfl, _, _, rfl, ares_tmp hT rfl, ?_, k⟩
    show Value.int .i64 _ = _
    simp [instrSpec, hr, roomSpec, h35]
  refine seq_region (ops_cons rfl (does_val (v := .bool false) (by show some (Value.bool (op == _), _) = _; simp [h35]) (ops_nil ⟨[(.agg #[vg, va, vc, vf]), (.int .i64 f), (.agg #[.int .i64 op, .int .i64 a]), (.pointer (some ⟨n, 0, none⟩)), (.pointer (some ⟨n + 1, 0, none⟩)), (.int .i64 0), (.int .i64 1), (.bool false), (.int .i64 op), (.bool false), (.bool false), (.bool false), (.bool false), undef, undef, undef, undef, undef, undef, undef, undef, undef, undef], rfl, ?_⟩)))
  refine seq_cond false rfl (seq_skip ?_)
  refine seq_assoc (seq_assoc ?_)
  by_cases h36 : op = 36
  · refine seq_region (ops_cons rfl (does_val (v := .bool true) (by show some (Value.bool (op == _), _) = _; simp [h36]) (ops_nil ⟨[(.agg #[vg, va, vc, vf]), (.int .i64 f), (.agg #[.int .i64 op, .int .i64 a]), (.pointer (some ⟨n, 0, none⟩)), (.pointer (some ⟨n + 1, 0, none⟩)), (.int .i64 0), (.int .i64 1), (.bool false), (.int .i64 op), (.bool false), (.bool false), (.bool false), (.bool false), (.bool true), undef, undef, undef, undef, undef, undef, undef, undef, undef], rfl, ?_⟩)))
    refine seq_cond true rfl (seq_exit ?_)
    show ARuns E _ _
    refine seq_region ?_
    refine ops_cons rfl (does_val rfl ?_)
    refine ops_cons rfl (does_load (v := vg) rfl g1 rfl ?_)
    refine ops_cons rfl (does_val (v := .int .i64 ((m.gs.length : Nat) : Int)) (by rw [eg]; rfl) (ops_nil ⟨[(.agg #[vg, va, vc, vf]), (.int .i64 f), (.agg #[.int .i64 op, .int .i64 a]), (.pointer (some ⟨n, 0, none⟩)), (.pointer (some ⟨n + 1, 0, none⟩)), (.int .i64 0), (.int .i64 ((m.gs.length : Nat) : Int)), (.bool false), (.int .i64 op), (.bool false), (.bool false), (.bool false), (.bool false), (.bool true), undef, undef, undef, undef, undef, undef, undef, undef, undef], rfl, ?_⟩))
    refine runs_exit ?_
    show ARuns E _ _
    refine tail_ok (most := ((m.gs.length : Nat) : Int)) gi fun T hT => ?_
    refine ⟨.inr rfl, _, _, rfl, ares_tmp hT rfl, ?_, k⟩
    show Value.int .i64 _ = _
    simp [instrSpec, hr, roomSpec, h36]
  refine seq_region (ops_cons rfl (does_val (v := .bool false) (by show some (Value.bool (op == _), _) = _; simp [h36]) (ops_nil ⟨[(.agg #[vg, va, vc, vf]), (.int .i64 f), (.agg #[.int .i64 op, .int .i64 a]), (.pointer (some ⟨n, 0, none⟩)), (.pointer (some ⟨n + 1, 0, none⟩)), (.int .i64 0), (.int .i64 1), (.bool false), (.int .i64 op), (.bool false), (.bool false), (.bool false), (.bool false), (.bool false), undef, undef, undef, undef, undef, undef, undef, undef, undef], rfl, ?_⟩)))
  refine seq_cond false rfl (seq_skip ?_)
  refine seq_assoc (seq_assoc ?_)
  by_cases h37 : op = 37
  · refine seq_region (ops_cons rfl (does_val (v := .bool true) (by show some (Value.bool (op == _), _) = _; simp [h37]) (ops_nil ⟨[(.agg #[vg, va, vc, vf]), (.int .i64 f), (.agg #[.int .i64 op, .int .i64 a]), (.pointer (some ⟨n, 0, none⟩)), (.pointer (some ⟨n + 1, 0, none⟩)), (.int .i64 0), (.int .i64 1), (.bool false), (.int .i64 op), (.bool false), (.bool false), (.bool false), (.bool false), (.bool false), (.bool true), undef, undef, undef, undef, undef, undef, undef, undef], rfl, ?_⟩)))
    refine seq_cond true rfl (seq_exit ?_)
    show ARuns E _ _
    refine seq_region ?_
    refine ops_cons rfl (does_val rfl ?_)
    refine ops_cons rfl (does_load (v := va) rfl g1 rfl ?_)
    refine ops_cons rfl (does_val (v := .int .i64 ((m.arrays.length : Nat) : Int)) (by rw [ea]; rfl) (ops_nil ⟨[(.agg #[vg, va, vc, vf]), (.int .i64 f), (.agg #[.int .i64 op, .int .i64 a]), (.pointer (some ⟨n, 0, none⟩)), (.pointer (some ⟨n + 1, 0, none⟩)), (.int .i64 0), (.int .i64 ((m.arrays.length : Nat) : Int)), (.bool false), (.int .i64 op), (.bool false), (.bool false), (.bool false), (.bool false), (.bool false), (.bool true), undef, undef, undef, undef, undef, undef, undef, undef], rfl, ?_⟩))
    refine runs_exit ?_
    show ARuns E _ _
    refine tail_ok (most := ((m.arrays.length : Nat) : Int)) gi fun T hT => ?_
    refine ⟨.inr rfl, _, _, rfl, ares_tmp hT rfl, ?_, k⟩
    show Value.int .i64 _ = _
    simp [instrSpec, hr, roomSpec, h37]
  refine seq_region (ops_cons rfl (does_val (v := .bool false) (by show some (Value.bool (op == _), _) = _; simp [h37]) (ops_nil ⟨[(.agg #[vg, va, vc, vf]), (.int .i64 f), (.agg #[.int .i64 op, .int .i64 a]), (.pointer (some ⟨n, 0, none⟩)), (.pointer (some ⟨n + 1, 0, none⟩)), (.int .i64 0), (.int .i64 1), (.bool false), (.int .i64 op), (.bool false), (.bool false), (.bool false), (.bool false), (.bool false), (.bool false), undef, undef, undef, undef, undef, undef, undef, undef], rfl, ?_⟩)))
  refine seq_cond false rfl (seq_skip ?_)
  refine seq_assoc (seq_assoc ?_)
  by_cases h38 : op = 38
  · refine seq_region (ops_cons rfl (does_val (v := .bool true) (by show some (Value.bool (op == _), _) = _; simp [h38]) (ops_nil ⟨[(.agg #[vg, va, vc, vf]), (.int .i64 f), (.agg #[.int .i64 op, .int .i64 a]), (.pointer (some ⟨n, 0, none⟩)), (.pointer (some ⟨n + 1, 0, none⟩)), (.int .i64 0), (.int .i64 1), (.bool false), (.int .i64 op), (.bool false), (.bool false), (.bool false), (.bool false), (.bool false), (.bool false), (.bool true), undef, undef, undef, undef, undef, undef, undef], rfl, ?_⟩)))
    refine seq_cond true rfl (seq_exit ?_)
    show ARuns E _ _
    refine seq_region ?_
    refine ops_cons rfl (does_val rfl ?_)
    refine ops_cons rfl (does_load (v := va) rfl g1 rfl ?_)
    refine ops_cons rfl (does_val (v := .int .i64 ((m.arrays.length : Nat) : Int)) (by rw [ea]; rfl) (ops_nil ⟨[(.agg #[vg, va, vc, vf]), (.int .i64 f), (.agg #[.int .i64 op, .int .i64 a]), (.pointer (some ⟨n, 0, none⟩)), (.pointer (some ⟨n + 1, 0, none⟩)), (.int .i64 0), (.int .i64 ((m.arrays.length : Nat) : Int)), (.bool false), (.int .i64 op), (.bool false), (.bool false), (.bool false), (.bool false), (.bool false), (.bool false), (.bool true), undef, undef, undef, undef, undef, undef, undef], rfl, ?_⟩))
    refine runs_exit ?_
    show ARuns E _ _
    refine tail_ok (most := ((m.arrays.length : Nat) : Int)) gi fun T hT => ?_
    refine ⟨.inr rfl, _, _, rfl, ares_tmp hT rfl, ?_, k⟩
    show Value.int .i64 _ = _
    simp [instrSpec, hr, roomSpec, h38]
  refine seq_region (ops_cons rfl (does_val (v := .bool false) (by show some (Value.bool (op == _), _) = _; simp [h38]) (ops_nil ⟨[(.agg #[vg, va, vc, vf]), (.int .i64 f), (.agg #[.int .i64 op, .int .i64 a]), (.pointer (some ⟨n, 0, none⟩)), (.pointer (some ⟨n + 1, 0, none⟩)), (.int .i64 0), (.int .i64 1), (.bool false), (.int .i64 op), (.bool false), (.bool false), (.bool false), (.bool false), (.bool false), (.bool false), (.bool false), undef, undef, undef, undef, undef, undef, undef], rfl, ?_⟩)))
  refine seq_cond false rfl (seq_skip ?_)
  refine seq_assoc (seq_assoc ?_)
  by_cases h43 : op = 43
  · refine seq_region (ops_cons rfl (does_val (v := .bool true) (by show some (Value.bool (op == _), _) = _; simp [h43]) (ops_nil ⟨[(.agg #[vg, va, vc, vf]), (.int .i64 f), (.agg #[.int .i64 op, .int .i64 a]), (.pointer (some ⟨n, 0, none⟩)), (.pointer (some ⟨n + 1, 0, none⟩)), (.int .i64 0), (.int .i64 1), (.bool false), (.int .i64 op), (.bool false), (.bool false), (.bool false), (.bool false), (.bool false), (.bool false), (.bool false), (.bool true), undef, undef, undef, undef, undef, undef], rfl, ?_⟩)))
    refine seq_cond true rfl (seq_exit ?_)
    show ARuns E _ _
    obtain ⟨j, rfl⟩ := Int.eq_ofNat_of_zero_le hr.1
    have hj : j < m.fns.length := by omega
    obtain ⟨b, off, ce, blk, w, lo, vp, vr, vcd, e1, g2, q, hb, r1, r2, r3⟩ := fn_at (h4.ext k) hj
    obtain ⟨ax, cx, ex⟩ := lenSC r3
    refine seq_region ?_
    refine ops_cons rfl (does_val rfl ?_)
    refine ops_cons rfl (does_load (v := vf) rfl g1 rfl ?_)
    refine ops_cons rfl (does_iaddr (j := j) (by rw [e1]; rfl) rfl hj ?_)
    refine ops_cons rfl (does_val rfl ?_)
    refine ops_cons rfl (does_load (v := vcd) rfl g2 (acells_at (j := 5) q rfl) ?_)
    refine ops_cons rfl (does_val (v := .int .i64 (((fnOf m j).code.length : Nat) : Int)) (by rw [ex]; rfl) (ops_nil ⟨[(.agg #[vg, va, vc, vf]), (.int .i64 (j : Int)), (.agg #[.int .i64 op, .int .i64 a]), (.pointer (some ⟨n, 0, none⟩)), (.pointer (some ⟨n + 1, 0, none⟩)), (.int .i64 0), (.int .i64 (((fnOf m j).code.length : Nat) : Int)), (.bool false), (.int .i64 op), (.bool false), (.bool false), (.bool false), (.bool false), (.bool false), (.bool false), (.bool false), (.bool true), undef, undef, undef, undef, undef, undef], rfl, ?_⟩))
    refine runs_exit ?_
    show ARuns E _ _
    refine tail_ok (most := (((fnOf m j).code.length : Nat) : Int)) gi fun T hT => ?_
    refine ⟨.inr rfl, _, _, rfl, ares_tmp hT rfl, ?_, k⟩
    show Value.int .i64 _ = _
    simp [instrSpec, hr, roomSpec, h43]
  refine seq_region (ops_cons rfl (does_val (v := .bool false) (by show some (Value.bool (op == _), _) = _; simp [h43]) (ops_nil ⟨[(.agg #[vg, va, vc, vf]), (.int .i64 f), (.agg #[.int .i64 op, .int .i64 a]), (.pointer (some ⟨n, 0, none⟩)), (.pointer (some ⟨n + 1, 0, none⟩)), (.int .i64 0), (.int .i64 1), (.bool false), (.int .i64 op), (.bool false), (.bool false), (.bool false), (.bool false), (.bool false), (.bool false), (.bool false), (.bool false), undef, undef, undef, undef, undef, undef], rfl, ?_⟩)))
  refine seq_cond false rfl (seq_skip ?_)
  refine seq_assoc (seq_assoc ?_)
  by_cases h44 : op = 44
  · refine seq_region (ops_cons rfl (does_val (v := .bool true) (by show some (Value.bool (op == _), _) = _; simp [h44]) (ops_nil ⟨[(.agg #[vg, va, vc, vf]), (.int .i64 f), (.agg #[.int .i64 op, .int .i64 a]), (.pointer (some ⟨n, 0, none⟩)), (.pointer (some ⟨n + 1, 0, none⟩)), (.int .i64 0), (.int .i64 1), (.bool false), (.int .i64 op), (.bool false), (.bool false), (.bool false), (.bool false), (.bool false), (.bool false), (.bool false), (.bool false), (.bool true), undef, undef, undef, undef, undef], rfl, ?_⟩)))
    refine seq_cond true rfl (seq_exit ?_)
    show ARuns E _ _
    obtain ⟨j, rfl⟩ := Int.eq_ofNat_of_zero_le hr.1
    have hj : j < m.fns.length := by omega
    obtain ⟨b, off, ce, blk, w, lo, vp, vr, vcd, e1, g2, q, hb, r1, r2, r3⟩ := fn_at (h4.ext k) hj
    obtain ⟨ax, cx, ex⟩ := lenSC r3
    refine seq_region ?_
    refine ops_cons rfl (does_val rfl ?_)
    refine ops_cons rfl (does_load (v := vf) rfl g1 rfl ?_)
    refine ops_cons rfl (does_iaddr (j := j) (by rw [e1]; rfl) rfl hj ?_)
    refine ops_cons rfl (does_val rfl ?_)
    refine ops_cons rfl (does_load (v := vcd) rfl g2 (acells_at (j := 5) q rfl) ?_)
    refine ops_cons rfl (does_val (v := .int .i64 (((fnOf m j).code.length : Nat) : Int)) (by rw [ex]; rfl) (ops_nil ⟨[(.agg #[vg, va, vc, vf]), (.int .i64 (j : Int)), (.agg #[.int .i64 op, .int .i64 a]), (.pointer (some ⟨n, 0, none⟩)), (.pointer (some ⟨n + 1, 0, none⟩)), (.int .i64 0), (.int .i64 (((fnOf m j).code.length : Nat) : Int)), (.bool false), (.int .i64 op), (.bool false), (.bool false), (.bool false), (.bool false), (.bool false), (.bool false), (.bool false), (.bool false), (.bool true), undef, undef, undef, undef, undef], rfl, ?_⟩))
    refine runs_exit ?_
    show ARuns E _ _
    refine tail_ok (most := (((fnOf m j).code.length : Nat) : Int)) gi fun T hT => ?_
    refine ⟨.inr rfl, _, _, rfl, ares_tmp hT rfl, ?_, k⟩
    show Value.int .i64 _ = _
    simp [instrSpec, hr, roomSpec, h44]
  refine seq_region (ops_cons rfl (does_val (v := .bool false) (by show some (Value.bool (op == _), _) = _; simp [h44]) (ops_nil ⟨[(.agg #[vg, va, vc, vf]), (.int .i64 f), (.agg #[.int .i64 op, .int .i64 a]), (.pointer (some ⟨n, 0, none⟩)), (.pointer (some ⟨n + 1, 0, none⟩)), (.int .i64 0), (.int .i64 1), (.bool false), (.int .i64 op), (.bool false), (.bool false), (.bool false), (.bool false), (.bool false), (.bool false), (.bool false), (.bool false), (.bool false), undef, undef, undef, undef, undef], rfl, ?_⟩)))
  refine seq_cond false rfl (seq_skip ?_)
  refine seq_assoc (seq_assoc ?_)
  by_cases h45 : op = 45
  · refine seq_region (ops_cons rfl (does_val (v := .bool true) (by show some (Value.bool (op == _), _) = _; simp [h45]) (ops_nil ⟨[(.agg #[vg, va, vc, vf]), (.int .i64 f), (.agg #[.int .i64 op, .int .i64 a]), (.pointer (some ⟨n, 0, none⟩)), (.pointer (some ⟨n + 1, 0, none⟩)), (.int .i64 0), (.int .i64 1), (.bool false), (.int .i64 op), (.bool false), (.bool false), (.bool false), (.bool false), (.bool false), (.bool false), (.bool false), (.bool false), (.bool false), (.bool true), undef, undef, undef, undef], rfl, ?_⟩)))
    refine seq_cond true rfl (seq_exit ?_)
    show ARuns E _ _
    refine seq_region ?_
    refine ops_cons rfl (does_val rfl ?_)
    refine ops_cons rfl (does_load (v := vf) rfl g1 rfl ?_)
    refine ops_cons rfl (does_val (v := .int .i64 ((m.fns.length : Nat) : Int)) (by rw [ef]; rfl) (ops_nil ⟨[(.agg #[vg, va, vc, vf]), (.int .i64 f), (.agg #[.int .i64 op, .int .i64 a]), (.pointer (some ⟨n, 0, none⟩)), (.pointer (some ⟨n + 1, 0, none⟩)), (.int .i64 0), (.int .i64 ((m.fns.length : Nat) : Int)), (.bool false), (.int .i64 op), (.bool false), (.bool false), (.bool false), (.bool false), (.bool false), (.bool false), (.bool false), (.bool false), (.bool false), (.bool true), undef, undef, undef, undef], rfl, ?_⟩))
    refine runs_exit ?_
    show ARuns E _ _
    refine tail_ok (most := ((m.fns.length : Nat) : Int)) gi fun T hT => ?_
    refine ⟨.inr rfl, _, _, rfl, ares_tmp hT rfl, ?_, k⟩
    show Value.int .i64 _ = _
    simp [instrSpec, hr, roomSpec, h45]
  refine seq_region (ops_cons rfl (does_val (v := .bool false) (by show some (Value.bool (op == _), _) = _; simp [h45]) (ops_nil ⟨[(.agg #[vg, va, vc, vf]), (.int .i64 f), (.agg #[.int .i64 op, .int .i64 a]), (.pointer (some ⟨n, 0, none⟩)), (.pointer (some ⟨n + 1, 0, none⟩)), (.int .i64 0), (.int .i64 1), (.bool false), (.int .i64 op), (.bool false), (.bool false), (.bool false), (.bool false), (.bool false), (.bool false), (.bool false), (.bool false), (.bool false), (.bool false), undef, undef, undef, undef], rfl, ?_⟩)))
  refine seq_cond false rfl (seq_skip ?_)
  refine seq_assoc (seq_assoc ?_)
  by_cases h47 : op = 47
  · refine seq_region (ops_cons rfl (does_val (v := .bool true) (by show some (Value.bool (op == _), _) = _; simp [h47]) (ops_nil ⟨[(.agg #[vg, va, vc, vf]), (.int .i64 f), (.agg #[.int .i64 op, .int .i64 a]), (.pointer (some ⟨n, 0, none⟩)), (.pointer (some ⟨n + 1, 0, none⟩)), (.int .i64 0), (.int .i64 1), (.bool false), (.int .i64 op), (.bool false), (.bool false), (.bool false), (.bool false), (.bool false), (.bool false), (.bool false), (.bool false), (.bool false), (.bool false), (.bool true), undef, undef, undef], rfl, ?_⟩)))
    refine seq_cond true rfl (seq_exit ?_)
    show ARuns E _ _
    refine seq_region ?_
    refine ops_cons rfl (does_val rfl ?_)
    refine ops_cons rfl (does_load (v := vc) rfl g1 rfl ?_)
    refine ops_cons rfl (does_val (v := .int .i64 ((m.chans.length : Nat) : Int)) (by rw [ec]; rfl) (ops_nil ⟨[(.agg #[vg, va, vc, vf]), (.int .i64 f), (.agg #[.int .i64 op, .int .i64 a]), (.pointer (some ⟨n, 0, none⟩)), (.pointer (some ⟨n + 1, 0, none⟩)), (.int .i64 0), (.int .i64 ((m.chans.length : Nat) : Int)), (.bool false), (.int .i64 op), (.bool false), (.bool false), (.bool false), (.bool false), (.bool false), (.bool false), (.bool false), (.bool false), (.bool false), (.bool false), (.bool true), undef, undef, undef], rfl, ?_⟩))
    refine runs_exit ?_
    show ARuns E _ _
    refine tail_ok (most := ((m.chans.length : Nat) : Int)) gi fun T hT => ?_
    refine ⟨.inr rfl, _, _, rfl, ares_tmp hT rfl, ?_, k⟩
    show Value.int .i64 _ = _
    simp [instrSpec, hr, roomSpec, h47]
  refine seq_region (ops_cons rfl (does_val (v := .bool false) (by show some (Value.bool (op == _), _) = _; simp [h47]) (ops_nil ⟨[(.agg #[vg, va, vc, vf]), (.int .i64 f), (.agg #[.int .i64 op, .int .i64 a]), (.pointer (some ⟨n, 0, none⟩)), (.pointer (some ⟨n + 1, 0, none⟩)), (.int .i64 0), (.int .i64 1), (.bool false), (.int .i64 op), (.bool false), (.bool false), (.bool false), (.bool false), (.bool false), (.bool false), (.bool false), (.bool false), (.bool false), (.bool false), (.bool false), undef, undef, undef], rfl, ?_⟩)))
  refine seq_cond false rfl (seq_skip ?_)
  refine seq_assoc (seq_assoc ?_)
  by_cases h39 : op = 39
  · refine seq_region (ops_cons rfl (does_val (v := .bool true) (by show some (Value.bool (op == _), _) = _; simp [h39]) (ops_nil ⟨[(.agg #[vg, va, vc, vf]), (.int .i64 f), (.agg #[.int .i64 op, .int .i64 a]), (.pointer (some ⟨n, 0, none⟩)), (.pointer (some ⟨n + 1, 0, none⟩)), (.int .i64 0), (.int .i64 1), (.bool false), (.int .i64 op), (.bool false), (.bool false), (.bool false), (.bool false), (.bool false), (.bool false), (.bool false), (.bool false), (.bool false), (.bool false), (.bool false), (.bool true), undef, undef], rfl, ?_⟩)))
    refine seq_cond true rfl (seq_skip ?_)
    refine seq_cond true rfl (seq_exit ?_)
    show ARuns E _ _
    refine runs_exit ?_
    show ARuns E _ _
    refine tail_ok (most := 1) gi fun T hT => ?_
    refine ⟨.inr rfl, _, _, rfl, ares_tmp hT rfl, ?_, k⟩
    show Value.int .i64 _ = _
    simp [instrSpec, hr, roomSpec, h39]
  refine seq_region (ops_cons rfl (does_val (v := .bool false) (by show some (Value.bool (op == _), _) = _; simp [h39]) (ops_nil ⟨[(.agg #[vg, va, vc, vf]), (.int .i64 f), (.agg #[.int .i64 op, .int .i64 a]), (.pointer (some ⟨n, 0, none⟩)), (.pointer (some ⟨n + 1, 0, none⟩)), (.int .i64 0), (.int .i64 1), (.bool false), (.int .i64 op), (.bool false), (.bool false), (.bool false), (.bool false), (.bool false), (.bool false), (.bool false), (.bool false), (.bool false), (.bool false), (.bool false), (.bool false), undef, undef], rfl, ?_⟩)))
  refine seq_cond false rfl ?_
  refine seq_assoc ?_
  by_cases h40 : op = 40
  · refine seq_region (ops_cons rfl (does_val (v := .bool true) (by show some (Value.bool (op == _), _) = _; simp [h40]) (ops_nil ⟨[(.agg #[vg, va, vc, vf]), (.int .i64 f), (.agg #[.int .i64 op, .int .i64 a]), (.pointer (some ⟨n, 0, none⟩)), (.pointer (some ⟨n + 1, 0, none⟩)), (.int .i64 0), (.int .i64 1), (.bool false), (.int .i64 op), (.bool false), (.bool false), (.bool false), (.bool false), (.bool false), (.bool false), (.bool false), (.bool false), (.bool false), (.bool false), (.bool false), (.bool true), undef, undef], rfl, ?_⟩)))
    refine seq_cond true rfl (seq_skip ?_)
    refine seq_cond true rfl (seq_exit ?_)
    show ARuns E _ _
    refine runs_exit ?_
    show ARuns E _ _
    refine tail_ok (most := 1) gi fun T hT => ?_
    refine ⟨.inr rfl, _, _, rfl, ares_tmp hT rfl, ?_, k⟩
    show Value.int .i64 _ = _
    simp [instrSpec, hr, roomSpec, h40]
  refine seq_region (ops_cons rfl (does_val (v := .bool false) (by show some (Value.bool (op == _), _) = _; simp [h40]) (ops_nil ⟨[(.agg #[vg, va, vc, vf]), (.int .i64 f), (.agg #[.int .i64 op, .int .i64 a]), (.pointer (some ⟨n, 0, none⟩)), (.pointer (some ⟨n + 1, 0, none⟩)), (.int .i64 0), (.int .i64 1), (.bool false), (.int .i64 op), (.bool false), (.bool false), (.bool false), (.bool false), (.bool false), (.bool false), (.bool false), (.bool false), (.bool false), (.bool false), (.bool false), (.bool false), undef, undef], rfl, ?_⟩)))
  refine seq_cond false rfl ?_
  refine seq_assoc ?_
  by_cases h41 : op = 41
  · refine seq_region (ops_cons rfl (does_val (v := .bool true) (by show some (Value.bool (op == _), _) = _; simp [h41]) (ops_nil ⟨[(.agg #[vg, va, vc, vf]), (.int .i64 f), (.agg #[.int .i64 op, .int .i64 a]), (.pointer (some ⟨n, 0, none⟩)), (.pointer (some ⟨n + 1, 0, none⟩)), (.int .i64 0), (.int .i64 1), (.bool false), (.int .i64 op), (.bool false), (.bool false), (.bool false), (.bool false), (.bool false), (.bool false), (.bool false), (.bool false), (.bool false), (.bool false), (.bool false), (.bool true), undef, undef], rfl, ?_⟩)))
    refine seq_cond true rfl (seq_skip ?_)
    refine seq_cond true rfl (seq_exit ?_)
    show ARuns E _ _
    refine runs_exit ?_
    show ARuns E _ _
    refine tail_ok (most := 1) gi fun T hT => ?_
    refine ⟨.inr rfl, _, _, rfl, ares_tmp hT rfl, ?_, k⟩
    show Value.int .i64 _ = _
    simp [instrSpec, hr, roomSpec, h41]
  refine seq_region (ops_cons rfl (does_val (v := .bool false) (by show some (Value.bool (op == _), _) = _; simp [h41]) (ops_nil ⟨[(.agg #[vg, va, vc, vf]), (.int .i64 f), (.agg #[.int .i64 op, .int .i64 a]), (.pointer (some ⟨n, 0, none⟩)), (.pointer (some ⟨n + 1, 0, none⟩)), (.int .i64 0), (.int .i64 1), (.bool false), (.int .i64 op), (.bool false), (.bool false), (.bool false), (.bool false), (.bool false), (.bool false), (.bool false), (.bool false), (.bool false), (.bool false), (.bool false), (.bool false), undef, undef], rfl, ?_⟩)))
  refine seq_cond false rfl ?_
  refine seq_assoc ?_
  by_cases h42 : op = 42
  · refine seq_region (ops_cons rfl (does_val (v := .bool true) (by show some (Value.bool (op == _), _) = _; simp [h42]) (ops_nil ⟨[(.agg #[vg, va, vc, vf]), (.int .i64 f), (.agg #[.int .i64 op, .int .i64 a]), (.pointer (some ⟨n, 0, none⟩)), (.pointer (some ⟨n + 1, 0, none⟩)), (.int .i64 0), (.int .i64 1), (.bool false), (.int .i64 op), (.bool false), (.bool false), (.bool false), (.bool false), (.bool false), (.bool false), (.bool false), (.bool false), (.bool false), (.bool false), (.bool false), (.bool true), undef, undef], rfl, ?_⟩)))
    refine seq_cond true rfl (seq_skip ?_)
    refine seq_cond true rfl (seq_exit ?_)
    show ARuns E _ _
    refine runs_exit ?_
    show ARuns E _ _
    refine tail_ok (most := 1) gi fun T hT => ?_
    refine ⟨.inr rfl, _, _, rfl, ares_tmp hT rfl, ?_, k⟩
    show Value.int .i64 _ = _
    simp [instrSpec, hr, roomSpec, h42]
  refine seq_region (ops_cons rfl (does_val (v := .bool false) (by show some (Value.bool (op == _), _) = _; simp [h42]) (ops_nil ⟨[(.agg #[vg, va, vc, vf]), (.int .i64 f), (.agg #[.int .i64 op, .int .i64 a]), (.pointer (some ⟨n, 0, none⟩)), (.pointer (some ⟨n + 1, 0, none⟩)), (.int .i64 0), (.int .i64 1), (.bool false), (.int .i64 op), (.bool false), (.bool false), (.bool false), (.bool false), (.bool false), (.bool false), (.bool false), (.bool false), (.bool false), (.bool false), (.bool false), (.bool false), undef, undef], rfl, ?_⟩)))
  refine seq_cond false rfl ?_
  by_cases h46 : op = 46
  · refine seq_region (ops_cons rfl (does_val (v := .bool true) (by show some (Value.bool (op == _), _) = _; simp [h46]) (ops_nil ⟨[(.agg #[vg, va, vc, vf]), (.int .i64 f), (.agg #[.int .i64 op, .int .i64 a]), (.pointer (some ⟨n, 0, none⟩)), (.pointer (some ⟨n + 1, 0, none⟩)), (.int .i64 0), (.int .i64 1), (.bool false), (.int .i64 op), (.bool false), (.bool false), (.bool false), (.bool false), (.bool false), (.bool false), (.bool false), (.bool false), (.bool false), (.bool false), (.bool false), (.bool true), undef, undef], rfl, ?_⟩)))
    refine seq_cond true rfl (seq_exit ?_)
    show ARuns E _ _
    refine runs_exit ?_
    show ARuns E _ _
    refine tail_ok (most := 1) gi fun T hT => ?_
    refine ⟨.inr rfl, _, _, rfl, ares_tmp hT rfl, ?_, k⟩
    show Value.int .i64 _ = _
    simp [instrSpec, hr, roomSpec, h46]
  refine seq_region (ops_cons rfl (does_val (v := .bool false) (by show some (Value.bool (op == _), _) = _; simp [h46]) (ops_nil ⟨[(.agg #[vg, va, vc, vf]), (.int .i64 f), (.agg #[.int .i64 op, .int .i64 a]), (.pointer (some ⟨n, 0, none⟩)), (.pointer (some ⟨n + 1, 0, none⟩)), (.int .i64 0), (.int .i64 1), (.bool false), (.int .i64 op), (.bool false), (.bool false), (.bool false), (.bool false), (.bool false), (.bool false), (.bool false), (.bool false), (.bool false), (.bool false), (.bool false), (.bool false), undef, undef], rfl, ?_⟩)))
  refine seq_cond false rfl (seq_skip ?_)
  refine runs_exit ?_
  show ARuns E _ _
  refine seq_assoc (seq_region ?_)
  refine ops_cons rfl (does_val rfl ?_)
  refine ops_cons rfl (does_load (v := .int .i64 op) rfl gi rfl ?_)
  by_cases hlo : op < 1
  · refine ops_cons rfl (does_val (v := .bool true) (by show some (Value.bool (decide _), _) = _; simp [hlo]) ?_)
    refine ops_not rfl (ops_not rfl (ops_not rfl ?_))
    refine ops_cons rfl (does_val rfl (ops_nil ⟨_, rfl, ?_⟩))
    refine seq_cond true rfl ?_
    refine seq_assoc (seq_region (ops_nil ⟨_, rfl, ?_⟩))
    refine seq_ret ⟨.inr rfl, _, _, rfl, rfl, ?_, k⟩
    show Value.int .i64 100 = _
    have hno : ¬ (1 ≤ op ∧ op ≤ 17) := by omega
    simp [instrSpec, hr, roomSpec, hno, h32, h33, h34, h35, h36, h37, h38, h43, h44, h45, h47, h39, h40, h41, h42, h46]
  refine ops_cons rfl (does_val (v := .bool false) (by show some (Value.bool (decide _), _) = _; simp; omega) ?_)
  refine ops_cons rfl (does_val rfl ?_)
  refine ops_cons rfl (does_load (v := .int .i64 op) rfl gi rfl ?_)
  by_cases hhi : op > 17
  · refine ops_cons rfl (does_val (v := .bool true) (by show some (Value.bool (decide _), _) = _; simp [hhi]) ?_)
    refine ops_cons rfl (does_val rfl (ops_nil ⟨_, rfl, ?_⟩))
    refine seq_cond true rfl ?_
    refine seq_assoc (seq_region (ops_nil ⟨_, rfl, ?_⟩))
    refine seq_ret ⟨.inr rfl, _, _, rfl, rfl, ?_, k⟩
    show Value.int .i64 100 = _
    have hno : ¬ (1 ≤ op ∧ op ≤ 17) := by omega
    simp [instrSpec, hr, roomSpec, hno, h32, h33, h34, h35, h36, h37, h38, h43, h44, h45, h47, h39, h40, h41, h42, h46]
  refine ops_cons rfl (does_val (v := .bool false) (by show some (Value.bool (decide _), _) = _; simp; omega) ?_)
  refine ops_cons rfl (does_val (v := .bool false) rfl (ops_nil ⟨[(.agg #[vg, va, vc, vf]), (.int .i64 f), (.agg #[.int .i64 op, .int .i64 a]), (.pointer (some ⟨n, 0, none⟩)), (.pointer (some ⟨n + 1, 0, none⟩)), (.int .i64 0), (.int .i64 1), (.bool false), (.int .i64 op), (.bool false), (.bool false), (.bool false), (.bool false), (.bool false), (.bool false), (.bool false), (.bool false), (.bool false), (.bool false), (.bool false), (.bool false), (.bool false), undef], rfl, ?_⟩))
  refine seq_cond false rfl (seq_skip ?_)
  have hyes : 1 ≤ op ∧ op ≤ 17 := by omega
  refine runs_exit ?_
  show ARuns E _ _
  refine tail_ok (most := 1) gi fun T hT => ?_
  refine ⟨.inr rfl, _, _, rfl, ares_tmp hT rfl, ?_, k⟩
  show Value.int .i64 _ = _
  simp [instrSpec, hr, roomSpec, hyes]
end Go.Proofs.Ytollibkfagjnaaa.Shape
