/- What heights that are told come to: plain law. -/
import Derived.Test.YtollibkfagjnaaaFrL
import Derived.Test.YtollibkfagjnaaaFrGrI
set_option linter.unusedVariables false
set_option linter.unusedSimpArgs false
set_option maxRecDepth 10000
namespace Go.Proofs.Ytollibkfagjnaaa.Shape.Kit
open Go.Proofs.Ytollibkfagjnaaa.AM
theorem go1_all {n b : Nat} {left : Int} {hs hs' : List Int} (h0 : 0 ≤ left) (hb : b < hs.length) (hbn : b ≠ n) (hg : go1 n left b hs = some hs') : hs'.getD b 0 = left := by
  unfold go1 at hg
  rw [if_neg hbn] at hg
  split at hg
  · cases hg; rw [getD_set, if_pos ⟨rfl, hb⟩]
  · split at hg
    · next h => cases hg; exact h
    · cases hg
theorem go1_new {n b c : Nat} {left : Int} {hs hs' : List Int} (hg : go1 n left b hs = some hs') (hc : 0 ≤ hs'.getD c 0) : 0 ≤ hs.getD c 0 ∨ c = b := by
  unfold go1 at hg
  split at hg
  · cases hg; exact .inl hc
  · split at hg
    · cases hg
      rw [getD_set] at hc
      split at hc
      · next h => exact .inr h.1
      · exact .inl hc
    · split at hg
      · cases hg; exact .inl hc
      · cases hg
theorem goS_all {n : Nat} {left : Int} {lk : List Bool} (h0 : 0 ≤ left) (h1 : left ≤ 64) : ∀ {l : List Nat} {hs hs' : List Int}, HInv n hs lk → goS n left l (some hs) = some hs' → (∀ b, b ∈ l → b < n → hs'.getD b 0 = left) ∧ ∀ c, 0 ≤ hs'.getD c 0 → 0 ≤ hs.getD c 0 ∨ c ∈ l
  | [], hs, hs', h, hg => by cases hg; exact ⟨fun b hb => (by cases hb), fun c hc => .inl hc⟩
  | b :: l, hs, hs', h, hg => by
    have hg' : goS n left l (go1 n left b hs) = some hs' := hg
    cases hx : go1 n left b hs with
    | none => rw [hx, goS_none] at hg'; cases hg'
    | some h2 =>
      rw [hx] at hg'
      obtain ⟨i1, k1⟩ := go1_inv h h0 h1 hx
      obtain ⟨i2, k2⟩ := goS_inv h0 h1 i1 hg'
      obtain ⟨a1, a2⟩ := goS_all h0 h1 i1 hg'
      refine ⟨fun c hc hcn => ?_, fun c hc => ?_⟩
      · rcases List.mem_cons.1 hc with rfl | hc
        · have := go1_all h0 (by rw [h.len]; exact hcn) (by omega) hx
          rw [k2 c (by omega), this]
        · exact a1 c hc hcn
      · rcases a2 c hc with q | q
        · rcases go1_new hx q with r | rfl
          · exact .inl r
          · exact .inr (List.mem_cons_self ..)
        · exact .inr (List.mem_cons_of_mem _ q)
/-- What holds in the midst. -/
structure GS (m : Md) (i n : Nat) (hs : List Int) (lk : List Bool) : Prop where
  inv : HInv n hs lk
  zero : hs.getD 0 0 = 0
  lk : ∀ a, a < n → lk.getD a false = true → chkH m i (hs.getD a 0) a = 0 ∧ ∀ b, b ∈ nxH m i a → b < n → hs.getD b 0 = leftH m i (hs.getD a 0) a
  way : ∀ b, b < n → 0 ≤ hs.getD b 0 → Gr.WayG (fun a => Gr.nextI (fnAt m i).code (a : Nat)) 0 b
theorem mem_natH {l : List Nat} {c : Nat} : ((c : Nat) : Int) ∈ natH l ↔ c ∈ l := by
  unfold natH
  rw [List.mem_map]
  constructor
  · rintro ⟨a, h1, h2⟩
    have : a = c := by omega
    subst this; exact h1
  · exact fun h => ⟨c, h, rfl⟩
theorem chk_zero {m : Md} {i a : Nat} {h : Int} (hc : chkH m i h a = 0) : ¬ h < (effH m i a).1 ∧ ¬ leftH m i h a > (fnAt m i).stk ∧ ¬ (opH m i a = 46 ∧ h ≠ (effH m i a).1) := by
  unfold chkH at hc
  split at hc
  · cases hc
  · next h1 =>
    split at hc
    · cases hc
    · next h2 =>
      split at hc
      · cases hc
      · next h3 => exact ⟨h1, h2, h3⟩
theorem HRun.good {m : Md} {i n : Nat} (hok : OkM m) (hi : i < m.fns.length) (hn : (fnAt m i).code.length = n) {hs : List Int} {lk : List Bool} {r : HR} (h : HRun m i hs lk r) : ∀ hs', r = .ok hs' → GS m i n hs lk → ∃ lk', GS m i n hs' lk' ∧ tdl hs' lk' = [] := by
  induction h with
  | @done hs lk h => intro hs' e hG; cases e; exact ⟨lk, hG, h⟩
  | chk h he h0 => intro hs' e; cases e
  | edge h he hg => intro hs' e; cases e
  | @go hs hs2 lk a r x h he hg t ih =>
    intro hs' e hG
    refine ih hs' e ?_
    rw [hn] at hg
    have ham : a ∈ tdl hs lk := by rw [h]; exact List.mem_cons_self ..
    obtain ⟨ha, ha0, hak⟩ := tdl_mem.1 ham
    rw [hG.inv.len] at ha
    have hal : a < (fnAt m i).code.length := by omega
    obtain ⟨q1, q2, q3, q4⟩ := eff_small hok hi hal
    obtain ⟨c1, c2, c3⟩ := chk_zero he
    have hz := ok_size hok hi
    have l0 : 0 ≤ leftH m i (hs.getD a 0) a := by unfold leftH; omega
    have l1 : leftH m i (hs.getD a 0) a ≤ 64 := by omega
    have hI2 := hG.inv.look ha0
    obtain ⟨i1, k1⟩ := goS_inv l0 l1 hI2 hg
    obtain ⟨a1, a2⟩ := goS_all l0 l1 hI2 hg
    obtain ⟨n1, n2⟩ := nx_nat (m := m) (i := i) hal
    refine ⟨i1, by rw [k1 0 (by rw [hG.zero]; decide)]; exact hG.zero, fun b hb hbk => ?_, fun b hb hb0 => ?_⟩
    · by_cases e : b = a
      · subst e
        rw [k1 b ha0]
        exact ⟨he, fun c hc hcn => a1 c hc hcn⟩
      · rw [Kit.getD_set, if_neg (fun x => e x.1)] at hbk
        obtain ⟨g1, g2⟩ := hG.lk b hb hbk
        have hb0 := hG.inv.lk b hbk
        rw [k1 b hb0]
        refine ⟨g1, fun c hc hcn => ?_⟩
        have hbl : b < (fnAt m i).code.length := by omega
        obtain ⟨p1, p2, p3, p4⟩ := eff_small hok hi hbl
        obtain ⟨d1, _, _⟩ := chk_zero g1
        have hl0 : 0 ≤ leftH m i (hs.getD b 0) b := by unfold leftH; omega
        rw [k1 c (by rw [g2 c hc hcn]; exact hl0), g2 c hc hcn]
    · rcases a2 b hb0 with q | q
      · exact hG.way b hb q
      · refine .step (hG.way a ha ha0) ?_
        show ((b : Nat) : Int) ∈ Gr.nextI (fnAt m i).code ((a : Nat) : Int)
        rw [n1]
        exact mem_natH.2 q
/-- What the law says of heights. -/
structure Hts (m : Md) (i n : Nat) (hs : List Int) : Prop where
  len : hs.length = n
  zero : hs.getD 0 0 = 0
  lo : ∀ a, -1 ≤ hs.getD a 0
  hi : ∀ a, hs.getD a 0 ≤ 64
  reach : ∀ a, a < n → (0 ≤ hs.getD a 0 ↔ (Gr.reachL (fnAt m i).code 0).getD a false = true)
  chk : ∀ a, a < n → 0 ≤ hs.getD a 0 → chkH m i (hs.getD a 0) a = 0
  next : ∀ a, a < n → 0 ≤ hs.getD a 0 → ∀ b, b ∈ nxH m i a → b < n → hs.getD b 0 = leftH m i (hs.getD a 0) a
  top : ∀ a, a < n → 0 ≤ hs.getD a 0 → hs.getD a 0 ≤ (fnAt m i).stk
end Go.Proofs.Ytollibkfagjnaaa.Shape.Kit
