/- FrameJoins: contracts of the functions that it reaches. -/
import Derived.Test.YtnngilpiajgobaaFrameJoinsCode
import Derived.Test.YtnngilpiajgobaaAM28
set_option linter.unusedVariables false
set_option linter.unusedSimpArgs false
set_option maxRecDepth 10000
namespace Go.Proofs.Ytnngilpiajgobaa.FrameJoins
open Go.Proofs.Ytnngilpiajgobaa.AM
theorem map_at {la : List Int} {i : Nat} (h : i < la.length) : (la.map (Value.int .u64))[i]'(by simpa using h) = .int .u64 (la[i]) := by simp
theorem labels_ok {va vb : Value} {H : AH TV} {la lb : List Int} (ha : RowOf H va (la.map (.int .u64))) (hb : RowOf H vb (lb.map (.int .u64))) (hl : la.length ≤ 4611686018427387904) :
    ARuns E (.call 27 [va, vb] H) fun r => r.v = .bool (decide (la = lb)) ∧ r.H = H := by
  obtain ⟨aa, ca, ea⟩ := ha.len
  obtain ⟨ab, cb, eb⟩ := hb.len
  rw [List.length_map] at ea eb
  refine runs_call rfl rfl ?_
  refine seq_region (ops_nil ⟨_, rfl, ?_⟩)
  refine seq_assoc (seq_region ?_)
  refine ops_cons rfl (does_val (v := .int .i64 (la.length : Nat)) (by subst ea; rfl) ?_)
  refine ops_cons rfl (does_val (v := .int .i64 (lb.length : Nat)) (by subst eb; rfl) ?_)
  refine ops_cons rfl (does_val rfl (ops_nil ⟨_, rfl, ?_⟩))
  by_cases hn : la.length = lb.length
  · refine seq_cond false (by show some (Value.bool (_ != _)) = _; rw [hn]; simp) (seq_skip ?_)
    refine seq_assoc (seq_region (ops_nil ⟨_, rfl, ?_⟩))
    refine seq_loop (fun m T H' ds => ∃ (i : Nat) (x4 x5 x6 : Value), m = la.length - i ∧ i ≤ la.length ∧ (∀ j, j < i → la[j]? = lb[j]?) ∧ T = [va, vb, .bool false, .int .i64 i, x4, x5, x6] ∧ H' = H ∧ ds = []) la.length ⟨0, _, _, _, rfl, Nat.zero_le _, fun j h => by omega, rfl, rfl, rfl⟩ ?_
    rintro m T H' ds ⟨i, x4, x5, x6, rfl, hi, hp, rfl, rfl, rfl⟩
    refine seq_assoc (seq_region ?_)
    refine ops_cons rfl (does_val (v := .int .i64 (la.length : Nat)) (by subst ea; rfl) ?_)
    refine ops_cons rfl (does_val rfl (ops_nil ⟨_, rfl, ?_⟩))
    by_cases hlt : i < la.length
    · refine seq_cond true (by show some (Value.bool _) = _; simp; omega) (seq_skip ?_)
      obtain ⟨b1, o1, c1, k1, w1, l1, e1, g1, q1⟩ := ha.at (i := i) (by simpa using hlt)
      obtain ⟨b2, o2, c2, k2, w2, l2, e2, g2, q2⟩ := hb.at (i := i) (by simp; omega)
      rw [List.length_map] at e1 e2
      rw [map_at hlt] at q1
      rw [map_at (by omega : i < lb.length)] at q2
      refine seq_block (seq_draw ?_)
      refine draws_cons rfl (does_iaddr (j := i) (by subst e1; rfl) rfl hlt ⟨rfl, Nat.le_refl _, ?_⟩)
      refine draws_cons rfl (does_load rfl g1 q1 ⟨rfl, Nat.le_refl _, ?_⟩)
      refine draws_cons rfl (does_iaddr (j := i) (by subst e2; rfl) rfl (by omega) ⟨rfl, Nat.le_refl _, ?_⟩)
      refine draws_cons rfl (does_load rfl g2 q2 ⟨rfl, Nat.le_refl _, ?_⟩)
      refine draws_cons rfl (does_val rfl ⟨rfl, Nat.le_refl _, draws_nil ⟨_, rfl, ?_⟩⟩)
      by_cases hq : la[i] = lb[i]
      · refine runs_cond false (by show some (Value.bool (_ != _)) = _; rw [hq]; simp) (runs_skip ?_)
        show ARuns E _ _
        refine runs_region (ops_cons rfl (does_inc rfl rfl (by omega) (ops_nil ⟨_, rfl, ?_⟩)))
        refine ⟨la.length - (i + 1), by omega, i + 1, _, _, _, rfl, by omega, fun j hj => ?_, rfl, rfl, rfl⟩
        by_cases hji : j = i
        · subst hji
          rw [List.getElem?_eq_getElem hlt, List.getElem?_eq_getElem (by omega), hq]
        · exact hp j (by omega)
      · refine runs_cond true (by show some (Value.bool (_ != _)) = _; simp [hq]) ?_
        refine seq_region (ops_nil ⟨_, rfl, ?_⟩)
        refine runs_ret ?_
        refine ⟨.inr rfl, _, _, rfl, rfl, ?_, rfl⟩
        show Value.bool false = _
        rw [decide_eq_false]
        rintro rfl
        exact hq rfl
    · refine seq_cond false (by show some (Value.bool _) = _; simp; omega) (seq_exit ?_)
      show ARuns E _ _
      refine seq_region (ops_nil ⟨_, rfl, ?_⟩)
      refine runs_ret ⟨.inr rfl, _, _, rfl, rfl, ?_, rfl⟩
      show Value.bool true = _
      rw [decide_eq_true]
      apply List.ext_getElem? 
      intro j
      by_cases hj : j < la.length
      · exact hp j (by omega)
      · rw [List.getElem?_eq_none (by omega), List.getElem?_eq_none (by omega)]
  · refine seq_cond true (by show some (Value.bool (_ != _)) = _; simp; omega) ?_
    refine seq_assoc (seq_region (ops_nil ⟨_, rfl, ?_⟩))
    refine seq_ret ⟨.inr rfl, _, _, rfl, rfl, ?_, rfl⟩
    show Value.bool false = _
    rw [decide_eq_false]
    rintro rfl
    exact hn rfl
def cellsU (l : List Int) : List Value := l.map (.int .u64)
theorem lent_ok {va : Value} {H : AH TV} {la : List Int} (ha : RowOf H va (cellsU la)) (hl : (la.length + 1) * 8 ≤ room) :
    ARuns E (.call 25 [va] H) fun r => ∃ b, Vec.size H ≤ b ∧ r.v = .slice (some ⟨b, 0, none⟩) la.length (2 * (la.length + 1)) ∧ Vec.get r.H b = some (.arr (cellsU la ++ [.int .u64 7171]) true 0) ∧ Keeps H r.H := by
  have hlen : (cellsU la).length = la.length := by simp [cellsU]
  have hone : (cellsU la).all oneCell = true := by simp [cellsU, oneCell]
  have hro : room = 140737488355328 := rfl
  refine runs_call rfl rfl ?_
  refine seq_region (ops_nil ⟨_, rfl, ?_⟩)
  refine seq_region (ops_nil ⟨_, rfl, ?_⟩)
  refine seq_region ?_
  -- the first append
  have key : ∀ (k : Value → AH TV → Prop), (∀ v' H', Acc H' (Vec.size H) v' (cellsU la) → Keeps H H' → k v' H') → ADoes E [va, .slice none 0 0, .slice none 0 0] [] (.append false 1 8 (.tmp 2) (.tmp 0)) H k := by
    intro k hk
    by_cases h0 : la.length = 0
    · have hnil : la = [] := List.eq_nil_of_length_eq_zero h0
      subst hnil
      refine does_append_none rfl rfl ha.alen ha.src (hk _ _ (.inl ⟨rfl, rfl⟩) (.refl _))
    · refine does_append_acc (base := Vec.size H) (cs := []) rfl (.inl ⟨rfl, rfl⟩) rfl ha.alen (by omega) ha.src rfl hone (by simp [hlen]; omega) (Nat.le_refl _) fun v' H' h1 h2 h3 => hk _ _ h1 ⟨h3, h2⟩
  refine ops_cons rfl (key _ fun v1 H1 h1 k1 => ops_nil ⟨_, rfl, ?_⟩)
  refine seq_region ?_
  refine ops_cons rfl (does_op _ _ rfl ?_)
  refine ops_cons rfl (does_append_acc (base := Vec.size H) (cs := cellsU la) (k := 1) (new := [.int .u64 7171]) rfl (h1.keep fun j h1 h2 => get_anew_lt h2) rfl rfl (by omega) ?_ rfl rfl (by rw [hlen]; omega) (Nat.le_trans k1.size (by rw [size_anew]; omega)) ?_)
  · simp only [asrc, arow, get_anew_same]; rfl
  intro v2 H2 h2 g2 s2
  refine ops_nil ⟨_, rfl, ?_⟩
  have hk2 : Keeps H H2 := ⟨Nat.le_trans k1.size (Nat.le_trans (by rw [size_anew]; omega) s2), fun j hj => by
    rw [g2 j hj, get_anew_lt (by have := k1.size; omega)]; exact k1.get j hj⟩
  rcases h2 with ⟨_, h⟩ | ⟨b, hb, rfl, _, hg⟩
  · simp [cellsU] at h
  obtain ⟨aa, ca, ea⟩ := ha.len
  rw [hlen] at ea
  have hlen2 : (cellsU la ++ [Value.int .u64 7171]).length = la.length + 1 := by simp [cellsU]
  rw [hlen2] at *
  refine seq_region ?_
  refine ops_cons rfl (does_val (v := .int .i64 (la.length : Nat)) (by subst ea; rfl) ?_)
  refine ops_cons rfl (does_cut rfl rfl (by omega) (by omega) (by omega) (ops_nil ⟨_, rfl, ?_⟩))
  refine runs_ret ⟨.inr rfl, _, _, rfl, rfl, b, hb, rfl, hg, hk2⟩
theorem kept_ok {vl : Value} {H : AH TV} {la : List Int} {b : Nat} {w : Bool} {lo : Nat} (hb : Vec.get H b = some (.arr (cellsU la ++ [.int .u64 7171]) w lo)) (ha : RowOf H vl (cellsU la)) (hl : la.length ≤ 4611686018427387904) :
    ARuns E (.call 29 [.slice (some ⟨b, 0, none⟩) la.length (2 * (la.length + 1)), vl] H) fun r => r.v = .bool true ∧ r.H = H := by
  have hlen : (cellsU la).length = la.length := by simp [cellsU]
  have hr : RowOf H (.slice (some ⟨b, 0, none⟩) la.length (2 * (la.length + 1))) (cellsU la) := .inr ⟨b, 0, _, _, _, _, by rw [hlen], hb, by simp, by simp [hlen]⟩
  refine runs_call rfl rfl ?_
  refine seq_region (ops_nil ⟨_, rfl, ?_⟩)
  refine seq_assoc (seq_region ?_)
  refine ops_cons rfl (does_call rfl rfl ((labels_ok hr ha hl).mono ?_))
  rintro ⟨e, T, H', ds, v⟩ ⟨rfl, rfl⟩
  refine ops_cons rfl (does_val rfl (ops_nil ⟨_, rfl, ?_⟩))
  refine seq_cond false (by show some (Value.bool (!decide (la = la))) = _; simp) (seq_skip ?_)
  refine seq_region ?_
  refine ops_cons rfl (does_val rfl ?_)
  refine ops_cons rfl (does_inc rfl rfl (by omega) ?_)
  refine ops_cons rfl (does_cut rfl rfl (by omega) (by omega) (by omega) (ops_nil ⟨_, rfl, ?_⟩))
  refine seq_region ?_
  refine ops_cons rfl (does_val rfl ?_)
  refine ops_cons rfl (does_iaddr rfl rfl (by omega) ?_)
  refine ops_cons rfl (does_load (v := .int .u64 7171) rfl hb ?_ ?_)
  · show (cellsU la ++ [Value.int .u64 7171])[0 + la.length * 1]? = _
    rw [Nat.zero_add, Nat.mul_one, List.getElem?_append_right (by omega), hlen, Nat.sub_self]; rfl
  refine ops_cons rfl (does_val rfl (ops_nil ⟨_, rfl, ?_⟩))
  exact runs_ret ⟨.inr rfl, _, _, rfl, rfl, rfl, rfl⟩
theorem within_ok {H : AH TV} {x y : Int} : ARuns E (.call 28 [.int .u64 x, .int .u64 y] H) fun r => r.v = .bool (abits .andNot .u64 x y == 0) ∧ r.H = H := by
  refine runs_call rfl rfl ?_
  refine seq_region (ops_nil ⟨_, rfl, ?_⟩)
  refine seq_region ?_
  refine ops_cons rfl (does_val rfl ?_)
  refine ops_cons rfl (does_val rfl (ops_nil ⟨_, rfl, ?_⟩))
  exact runs_ret ⟨.inr rfl, _, _, rfl, rfl, rfl, rfl⟩
theorem or0 {x : Int} (h0 : 0 ≤ x) (h1 : x < 18446744073709551616) : abits .or .u64 0 x = x := by
  obtain ⟨n, rfl⟩ := Int.eq_ofNat_of_zero_le h0
  have hn : n < 2 ^ 64 := by omega
  show ((BitVec.ofInt 64 0 ||| BitVec.ofInt 64 (n : Int)).toNat : Int) % 18446744073709551616 = n
  have e : BitVec.ofInt 64 0 ||| BitVec.ofInt 64 (n : Int) = BitVec.ofNat 64 n := by
    rw [BitVec.ofInt_natCast]; simp
  rw [e, BitVec.toNat_ofNat, Nat.mod_eq_of_lt hn]
  omega
theorem join_ok {va : Value} {H : AH TV} {la : List Int} (ha : RowOf H va (cellsU la)) (hl : la.length ≤ 4611686018427387904) :
    ARuns E (.call 26 [va] H) fun r => r.v = .int .u64 (la.foldl (fun a x => abits .or .u64 a x) 0) ∧ r.H = H := by
  have hlen : (cellsU la).length = la.length := by simp [cellsU]
  obtain ⟨aa, ca, ea⟩ := ha.len
  rw [hlen] at ea
  refine runs_call rfl rfl ?_
  refine seq_region (ops_nil ⟨_, rfl, ?_⟩)
  refine seq_assoc (seq_region ?_)
  refine ops_cons rfl (does_val (v := .int .i64 (la.length : Nat)) (by subst ea; rfl) (ops_nil ⟨_, rfl, ?_⟩))
  refine seq_loop (fun m T H' ds => ∃ (i : Nat) (x2 x6 : Value), m = la.length - i ∧ i ≤ la.length ∧ T = [va, .int .u64 ((la.take i).foldl (fun a x => abits .or .u64 a x) 0), x2, va, .int .i64 (la.length : Nat), .int .i64 i, x6] ∧ H' = H ∧ ds = []) la.length ⟨0, _, _, rfl, Nat.zero_le _, rfl, rfl, rfl⟩ ?_
  rintro m T H' ds ⟨i, x2, x6, rfl, hi, rfl, rfl, rfl⟩
  refine seq_region (ops_cons rfl (does_val rfl (ops_nil ⟨_, rfl, ?_⟩)))
  by_cases hlt : i < la.length
  · refine seq_cond true (by show some (Value.bool _) = _; simp; omega) (seq_skip ?_)
    obtain ⟨b1, o1, c1, k1, w1, l1, e1, g1, q1⟩ := ha.at (i := i) (by rw [hlen]; exact hlt)
    rw [hlen] at e1
    rw [show (cellsU la)[i]'(by rw [hlen]; exact hlt) = .int .u64 la[i] by simp [cellsU]] at q1
    refine seq_block (seq_region ?_)
    refine ops_cons rfl (does_iaddr (j := i) (by subst e1; rfl) rfl hlt ?_)
    refine ops_cons rfl (does_load rfl g1 q1 (ops_nil ⟨_, rfl, ?_⟩))
    refine runs_region (ops_cons rfl (does_val rfl (ops_nil ⟨_, rfl, ?_⟩)))
    show ARuns E _ _
    refine runs_region (ops_cons rfl (does_inc rfl rfl (by omega) (ops_nil ⟨_, rfl, ?_⟩)))
    have e : (la.take (i + 1)).foldl (fun a x => abits .or .u64 a x) 0 = abits .or .u64 ((la.take i).foldl (fun a x => abits .or .u64 a x) 0) la[i] := by
      rw [List.take_succ_eq_append_getElem hlt, List.foldl_append]; rfl
    refine ⟨la.length - (i + 1), by omega, i + 1, _, _, rfl, by omega, by rw [e]; rfl, rfl, rfl⟩
  · refine seq_cond false (by show some (Value.bool _) = _; simp; omega) (seq_exit ?_)
    show ARuns E _ _
    have : i = la.length := by omega
    subst this
    rw [List.take_length]
    refine seq_region (ops_nil ⟨_, rfl, ?_⟩)
    exact runs_ret ⟨.inr rfl, _, _, rfl, rfl, rfl, rfl⟩
theorem ares_cell {T : AT} {H : AH TV} {t : Nat} {n : Option Nat} {b off : Nat} {cs : List Value} {w : Bool} {lo : Nat} {v : Value} {rs : List ARes} {vs : List Value} (ht : T[t]? = some (.pointer (some ⟨b, off, none⟩))) (hg : Vec.get H b = some (.arr cs w lo)) (hc : acells cs n off = some v) (hr : ares T H rs = some vs) : ares T H (.cell t n :: rs) = some (v :: vs) := by
  simp only [ares, x1, ht, aload, arow, hg, hc, hr]
theorem ares_tmp {T : AT} {H : AH TV} {t : Nat} {v : Value} {rs : List ARes} {vs : List Value} (ht : T[t]? = some v) (hr : ares T H rs = some vs) : ares T H (.tmp t :: rs) = some (v :: vs) := by
  simp only [ares, ht, hr]
/-- A row that was lent. -/
def Lent (H : AH TV) (b : Nat) (l : List Int) : Prop := Vec.get H b = some (.arr (cellsU l ++ [.int .u64 7171]) true 0)
def lentV (b : Nat) (l : List Int) : Value := .slice (some ⟨b, 0, none⟩) l.length (2 * (l.length + 1))
theorem lentFrame_ok {vs vl : Value} {H : AH TV} {ls ll : List Int} (hs : RowOf H vs (cellsU ls)) (hl : RowOf H vl (cellsU ll)) (rs : (ls.length + 1) * 8 ≤ room) (rl : (ll.length + 1) * 8 ≤ room) :
    ARuns E (.call 8 [.agg #[vs, vl]] H) fun r => ∃ b1 b2, Vec.size H ≤ b1 ∧ Vec.size H ≤ b2 ∧ r.v = .agg #[lentV b1 ls, lentV b2 ll] ∧ Lent r.H b1 ls ∧ Lent r.H b2 ll ∧ Keeps H r.H := by
  have os := hs.slice; have ol := hl.slice
  refine runs_call rfl rfl ?_
  refine seq_region ?_
  refine ops_cons rfl (does_op (.pointer (some ⟨Vec.size H, 0, none⟩)) (anew H [vs, vl]) ?_ ?_)
  · show (if [vs, vl].all oneCell = true then _ else _) = _
    rw [if_pos (by simp [os.2, ol.2])]; rfl
  refine ops_cons rfl (does_op _ _ rfl (ops_nil ⟨_, rfl, ?_⟩))
  generalize h1 : anew H [vs, vl] = H1
  have z1 : Vec.size H1 = Vec.size H + 1 := by rw [← h1, size_anew]
  have k1 : Keeps H H1 := by rw [← h1]; exact (Keeps.refl H).anew _
  have a1 : Vec.get H1 (Vec.size H) = some (.arr [vs, vl] true 0) := by rw [← h1]; exact get_anew_same _ _
  generalize h2 : anew H1 [Value.slice none 0 0, Value.slice none 0 0] = H2
  have z2 : Vec.size H2 = Vec.size H + 2 := by rw [← h2, size_anew, z1]
  have k2 : Keeps H H2 := by rw [← h2]; exact k1.anew _
  have a2 : Vec.get H2 (Vec.size H) = some (.arr [vs, vl] true 0) := by rw [← h2, get_anew_lt (by omega)]; exact a1
  have c2 : Vec.get H2 (Vec.size H1) = some (.arr [.slice none 0 0, .slice none 0 0] true 0) := by rw [← h2]; exact get_anew_same _ _
  refine seq_draw ?_
  refine draws_cons rfl (does_val rfl ⟨rfl, Nat.le_refl _, ?_⟩)
  refine draws_cons rfl (does_load rfl a2 rfl ⟨rfl, Nat.le_refl _, ?_⟩)
  refine draws_cons rfl (does_call rfl rfl ((lent_ok (hs.ext k2) rs).mono ?_))
  rintro ⟨e3, T3, H3, ds3, v3⟩ ⟨b1, q1, rfl, q2, k3⟩
  refine ⟨rfl, k3.size, ?_⟩
  refine draws_cons rfl (does_val rfl ⟨rfl, Nat.le_refl _, ?_⟩)
  refine draws_cons rfl (does_load rfl (k3.some a2) rfl ⟨loadOk_of rfl ol.1 ?_, Nat.le_refl _, ?_⟩)
  · intro K hK
    have : K = H2 := by simpa [isEff] using hK
    subst this
    exact aload_of a2 rfl
  refine draws_cons rfl (does_call rfl rfl ((lent_ok (hl.ext (k2.trans k3)) rl).mono ?_))
  rintro ⟨e4, T4, H4, ds4, v4⟩ ⟨b2, q3, rfl, q4, k4⟩
  refine ⟨rfl, k4.size, ?_⟩
  refine draws_cons rfl (does_val rfl ⟨rfl, Nat.le_refl _, ?_⟩)
  have c4 := k4.some (k3.some c2)
  have s3 := k3.size
  have s4 := k4.size
  refine draws_cons rfl (does_store rfl rfl rfl rfl rfl c4 (Nat.zero_le _) (show 2 ≤ 2 from Nat.le_refl 2) ⟨rfl, by rw [Vec.size_set]; exact Nat.le_refl _, draws_nil ⟨_, rfl, ?_⟩⟩)
  simp only at q1 q2 q3 q4 s3 s4
  refine runs_ret ⟨.inr rfl, _, _, rfl, ares_cell rfl (get_set_same (Vec.get_lt _ _ _ c4)) rfl rfl, b1, b2, by omega, by omega, rfl, ?_, ?_, ?_⟩
  · show Vec.get (Vec.set H4 _ _) _ = _
    rw [get_set_ne (by omega)]; exact k4.some q2
  · show Vec.get (Vec.set H4 _ _) _ = _
    rw [get_set_ne (by omega)]; exact q4
  · exact ((k2.trans k3).trans k4).set _ (by omega)
theorem does_faddr {T L : List Value} {H : AH TV} {Q : Value → AH TV → Prop} {x : AM.Src} {b o off : Nat} (hx : sev T L x = some (.pointer (some ⟨b, o, none⟩))) (hq : Q (.pointer (some ⟨b, o + off, none⟩)) H) : ADoes E T L (.faddr off x) H Q :=
  does_op _ H (by simp [aexec, x1, hx, fFaddr, add_none, withH]) hq
def prologue : List AOper := [⟨.faddr 0 (.tmp 2), none, 0⟩, ⟨.load none (.loc 0), none, 0⟩, ⟨.len (.loc 0), none, 0⟩, ⟨.faddr 0 (.tmp 3), none, 0⟩, ⟨.load none (.loc 0), none, 0⟩, ⟨.len (.loc 0), none, 0⟩, ⟨.bin .neq (.loc 3) (.loc 0), none, 0⟩, ⟨.faddr 1 (.tmp 2), (some ((.loc 0), false)), 0⟩, ⟨.load none (.loc 0), (some ((.loc 1), false)), 0⟩, ⟨.len (.loc 0), (some ((.loc 2), false)), 0⟩, ⟨.faddr 1 (.tmp 3), (some ((.loc 3), false)), 0⟩, ⟨.load none (.loc 0), (some ((.loc 4), false)), 0⟩, ⟨.len (.loc 0), (some ((.loc 5), false)), 0⟩, ⟨.bin .neq (.loc 3) (.loc 0), (some ((.loc 6), false)), 0⟩, ⟨.pick (.loc 7) (.const (.bool true)) (.loc 0), none, 0⟩]
theorem prologue_ok {T : AT} {H : AH TV} {Q : List Value → AH TV → Prop} {bx bz n1 n2 n3 n4 c1 c2 c3 c4 : Nat} {a1 a2 a3 a4 : Option Addr} {wx wz : Bool} {lx lz : Nat} (t2 : T[2]? = some (.pointer (some ⟨bx, 0, none⟩))) (t3 : T[3]? = some (.pointer (some ⟨bz, 0, none⟩)))
    (gx : Vec.get H bx = some (.arr [.slice a1 n1 c1, .slice a2 n2 c2] wx lx)) (gz : Vec.get H bz = some (.arr [.slice a3 n3 c3, .slice a4 n4 c4] wz lz))
    (hq : ∀ L, Q (.bool (!decide (n1 = n3 ∧ n2 = n4)) :: L) H) : AOps E T prologue [] H Q := by
  unfold prologue
  refine ops_cons rfl (does_faddr t2 ?_)
  refine ops_cons rfl (does_load rfl gx rfl ?_)
  refine ops_cons rfl (does_val rfl ?_)
  refine ops_cons rfl (does_faddr t3 ?_)
  refine ops_cons rfl (does_load rfl gz rfl ?_)
  refine ops_cons rfl (does_val rfl ?_)
  by_cases h1 : n1 = n3
  · refine ops_cons rfl (does_val (v := .bool false) (by show some (Value.bool (_ != _), H) = _; rw [h1]; simp) ?_)
    refine ops_cons rfl (does_faddr t2 ?_)
    refine ops_cons rfl (does_load rfl gx rfl ?_)
    refine ops_cons rfl (does_val rfl ?_)
    refine ops_cons rfl (does_faddr t3 ?_)
    refine ops_cons rfl (does_load rfl gz rfl ?_)
    refine ops_cons rfl (does_val rfl ?_)
    refine ops_cons rfl (does_val (v := .bool (!decide (n2 = n4))) (by show some (Value.bool (_ != _), H) = _; by_cases h2 : n2 = n4 <;> simp [h2]; omega) ?_)
    refine ops_cons rfl (does_val rfl (ops_nil ?_))
    have := hq
    simp only [h1, true_and] at this
    exact this _
  · refine ops_cons rfl (does_val (v := .bool true) (by show some (Value.bool (_ != _), H) = _; simp; omega) ?_)
    refine ops_not rfl (ops_not rfl (ops_not rfl (ops_not rfl (ops_not rfl (ops_not rfl (ops_not rfl ?_))))))
    refine ops_cons rfl (does_val rfl (ops_nil ?_))
    have := hq
    simp only [h1, false_and, decide_false, Bool.not_false] at this
    exact this _
/-- Two frames in boxes. -/
theorem boxes_ok {T : AT} {H : AH TV} {Q : List Value → AH TV → Prop} {xs xl ys yl : Value} (t0 : T[0]? = some (.agg #[xs, xl])) (t1 : T[1]? = some (.agg #[ys, yl])) (o1 : oneCell xs = true) (o2 : oneCell xl = true) (o3 : oneCell ys = true) (o4 : oneCell yl = true)
    (hq : ∀ H', Vec.size H' = Vec.size H + 2 → Keeps H H' → Vec.get H' (Vec.size H) = some (.arr [xs, xl] true 0) → Vec.get H' (Vec.size H + 1) = some (.arr [ys, yl] true 0) → Q [.pointer (some ⟨Vec.size H + 1, 0, none⟩), .pointer (some ⟨Vec.size H, 0, none⟩)] H') {rest : List AOper}
    (hr : ∀ L H', Q L H' → AOps E T rest L H' Q) : AOps E T (⟨.box (.tmp 0), none, 0⟩ :: ⟨.box (.tmp 1), none, 0⟩ :: rest) [] H Q := by
  refine ops_cons rfl (does_op (.pointer (some ⟨Vec.size H, 0, none⟩)) (anew H [xs, xl]) ?_ ?_)
  · simp only [aexec, x1, sev, t0]
    show (if [xs, xl].all oneCell = true then _ else _) = _
    rw [if_pos (by simp [o1, o2])]; rfl
  refine ops_cons rfl (does_op (.pointer (some ⟨Vec.size H + 1, 0, none⟩)) (anew (anew H [xs, xl]) [ys, yl]) ?_ ?_)
  · simp only [aexec, x1, sev, t1]
    show (if [ys, yl].all oneCell = true then _ else _) = _
    rw [if_pos (by simp [o3, o4])]
    show some (Value.pointer (some ⟨Vec.size (anew H [xs, xl]), 0, none⟩), _) = _
    rw [size_anew]; rfl
  refine hr _ _ (hq _ (by rw [size_anew, size_anew]) (((Keeps.refl H).anew _).anew _) ?_ ?_)
  · rw [get_anew_lt (by rw [size_anew]; omega)]; exact get_anew_same _ _
  · have := get_anew_same (anew H [xs, xl]) [ys, yl]
    rwa [size_anew] at this
theorem frame_ok {xs xl ys yl : Value} {H : AH TV} {ls ll ms ml : List Int} (h1 : RowOf H xs (cellsU ls)) (h2 : RowOf H xl (cellsU ll)) (h3 : RowOf H ys (cellsU ms)) (h4 : RowOf H yl (cellsU ml)) (r1 : ls.length ≤ 4611686018427387904) (r2 : ll.length ≤ 4611686018427387904) :
    ARuns E (.call 11 [.agg #[xs, xl], .agg #[ys, yl]] H) fun r => r.v = .bool (decide (ls = ms) && decide (ll = ml)) ∧ Keeps H r.H := by
  refine runs_call rfl rfl ?_
  refine seq_region (boxes_ok rfl rfl h1.slice.2 h2.slice.2 h3.slice.2 h4.slice.2 (fun H2 z2 k2 gx gy => ⟨_, rfl, ?_⟩) (fun _ _ h => ops_nil h))
  refine seq_region ?_
  refine ops_cons rfl (does_val rfl ?_)
  refine ops_cons rfl (does_load rfl gx rfl ?_)
  refine ops_cons rfl (does_val rfl ?_)
  refine ops_cons rfl (does_load rfl gy rfl ?_)
  refine ops_cons rfl (does_call rfl rfl ((labels_ok (h1.ext k2) (h3.ext k2) r1).mono ?_))
  rintro ⟨e3, T3, H3, ds3, v3⟩ ⟨rfl, rfl⟩
  by_cases e1 : ls = ms
  · rw [decide_eq_true e1, Bool.true_and]
    refine ops_cons rfl (does_val rfl ?_)
    refine ops_cons rfl (does_load rfl gx rfl ?_)
    refine ops_cons rfl (does_val rfl ?_)
    refine ops_cons rfl (does_load rfl gy rfl ?_)
    refine ops_cons rfl (does_call rfl rfl ((labels_ok (h2.ext k2) (h4.ext k2) r2).mono ?_))
    rintro ⟨e4, T4, H4, ds4, v4⟩ ⟨rfl, rfl⟩
    refine ops_cons rfl (does_val rfl (ops_nil ⟨_, rfl, ?_⟩))
    exact runs_ret ⟨.inr rfl, _, _, rfl, rfl, rfl, k2⟩
  · rw [decide_eq_false e1, Bool.false_and]
    refine ops_not rfl (ops_not rfl (ops_not rfl (ops_not rfl (ops_not rfl ?_))))
    refine ops_cons rfl (does_val rfl (ops_nil ⟨_, rfl, ?_⟩))
    exact runs_ret ⟨.inr rfl, _, _, rfl, rfl, rfl, k2⟩
theorem keptFrame_ok {ys yl : Value} {H : AH TV} {ls ll : List Int} {b1 b2 : Nat} (g1 : Lent H b1 ls) (g2 : Lent H b2 ll) (h3 : RowOf H ys (cellsU ls)) (h4 : RowOf H yl (cellsU ll)) (r1 : ls.length ≤ 4611686018427387904) (r2 : ll.length ≤ 4611686018427387904) :
    ARuns E (.call 14 [.agg #[lentV b1 ls, lentV b2 ll], .agg #[ys, yl]] H) fun r => r.v = .bool true ∧ Keeps H r.H := by
  refine runs_call rfl rfl ?_
  refine seq_region (boxes_ok rfl rfl rfl rfl h3.slice.2 h4.slice.2 (fun H2 z2 k2 gx gy => ⟨_, rfl, ?_⟩) (fun _ _ h => ops_nil h))
  refine seq_region ?_
  refine ops_cons rfl (does_val rfl ?_)
  refine ops_cons rfl (does_load rfl gx rfl ?_)
  refine ops_cons rfl (does_val rfl ?_)
  refine ops_cons rfl (does_load rfl gy rfl ?_)
  refine ops_cons rfl (does_call rfl rfl ((kept_ok (k2.some g1) (h3.ext k2) r1).mono ?_))
  rintro ⟨e3, T3, H3, ds3, v3⟩ ⟨rfl, rfl⟩
  refine ops_cons rfl (does_val rfl ?_)
  refine ops_cons rfl (does_load rfl gx rfl ?_)
  refine ops_cons rfl (does_val rfl ?_)
  refine ops_cons rfl (does_load rfl gy rfl ?_)
  refine ops_cons rfl (does_call rfl rfl ((kept_ok (k2.some g2) (h4.ext k2) r2).mono ?_))
  rintro ⟨e4, T4, H4, ds4, v4⟩ ⟨rfl, rfl⟩
  refine ops_cons rfl (does_val rfl (ops_nil ⟨_, rfl, ?_⟩))
  exact runs_ret ⟨.inr rfl, _, _, rfl, rfl, rfl, k2⟩
theorem atU {v : Value} {H : AH TV} {ls : List Int} (h : RowOf H v (cellsU ls)) {i : Nat} (hi : i < ls.length) : ∃ b off ce blk w lo, v = .slice (some ⟨b, off, none⟩) ls.length ce ∧ Vec.get H b = some (.arr blk w lo) ∧ blk[off + i * 1]? = some (.int .u64 (ls.getD i 0)) := by
  have hlen : (cellsU ls).length = ls.length := by simp [cellsU]
  obtain ⟨b, off, ce, blk, w, lo, e, g, q⟩ := h.at (i := i) (by rw [hlen]; exact hi)
  rw [hlen] at e
  refine ⟨b, off, ce, blk, w, lo, e, g, ?_⟩
  rw [q]
  simp [cellsU, List.getD, hi]
theorem lenU {v : Value} {H : AH TV} {ls : List Int} (h : RowOf H v (cellsU ls)) : ∃ a c, v = .slice a ls.length c := by
  have hlen : (cellsU ls).length = ls.length := by simp [cellsU]
  obtain ⟨a, c, e⟩ := h.len
  rw [hlen] at e
  exact ⟨a, c, e⟩
def wd (ls ms : List Int) (j : Nat) : Bool := abits .andNot .u64 (ls.getD j 0) (ms.getD j 0) == 0
def wn (ls ms : List Int) : Bool := (List.range ls.length).all (wd ls ms)
theorem wn_true {ls ms : List Int} (h : ∀ j, j < ls.length → wd ls ms j = true) : wn ls ms = true := by
  simp only [wn, List.all_eq_true, List.mem_range]; exact h
theorem wn_false {ls ms : List Int} {j : Nat} (hj : j < ls.length) (h : wd ls ms j = false) : wn ls ms = false := by
  rw [← Bool.not_eq_true]
  intro hw
  simp only [wn, List.all_eq_true, List.mem_range] at hw
  rw [hw j hj] at h; cases h
def wnF (ls ll ms ml : List Int) : Bool := decide (ls.length = ms.length ∧ ll.length = ml.length) && (wn ls ms && wn ll ml)
set_option maxHeartbeats 1000000 in
theorem fwithin_ok {xs xl ys yl : Value} {H : AH TV} {ls ll ms ml : List Int} (h1 : RowOf H xs (cellsU ls)) (h2 : RowOf H xl (cellsU ll)) (h3 : RowOf H ys (cellsU ms)) (h4 : RowOf H yl (cellsU ml)) (r1 : ls.length ≤ 4611686018427387904) (r2 : ll.length ≤ 4611686018427387904) :
    ARuns E (.call 12 [.agg #[xs, xl], .agg #[ys, yl]] H) fun r => r.v = .bool (wnF ls ll ms ml) ∧ Keeps H r.H := by
  refine runs_call rfl rfl ?_
  refine seq_region (boxes_ok rfl rfl h1.slice.2 h2.slice.2 h3.slice.2 h4.slice.2 (fun H2 z2 k2 gx gy => ⟨_, rfl, ?_⟩) (fun _ _ h => ops_nil h))
  refine seq_assoc (seq_region ?_)
  obtain ⟨a1, c1, e1⟩ := lenU h1
  obtain ⟨a2, c2, e2⟩ := lenU h2
  obtain ⟨a3, c3, e3⟩ := lenU h3
  obtain ⟨a4, c4, e4⟩ := lenU h4
  refine prologue_ok rfl rfl (by rw [e1, e2] at gx; exact gx) (by rw [e3, e4] at gy; exact gy) fun L => ⟨_, rfl, ?_⟩
  by_cases hn : ls.length = ms.length ∧ ll.length = ml.length
  · refine seq_cond false (by show some (Value.bool (!decide _)) = _; simp [hn]) (seq_skip ?_)
    obtain ⟨hn1, hn2⟩ := hn
    refine seq_assoc (seq_region ?_)
    refine ops_cons rfl (does_val rfl ?_)
    refine ops_cons rfl (does_load rfl gx rfl ?_)
    refine ops_cons rfl (does_val (v := .int .i64 (ls.length : Nat)) (by obtain ⟨a, c, e⟩ := lenU h1; subst e; rfl) (ops_nil ⟨_, rfl, ?_⟩))
    refine seq_loop (fun m T H' ds => ∃ (i : Nat) (y5 y6 y7 y8 y9 y13 y14 y15 y16 y17 y18 y19 : Value), m = ls.length - i ∧ i ≤ ls.length ∧ (∀ j, j < i → wd ls ms j = true) ∧ T = [(.agg #[xs, xl]), (.agg #[ys, yl]), (.pointer (some ⟨Vec.size H, 0, none⟩)), (.pointer (some ⟨Vec.size H + 1, 0, none⟩)), (.bool false), y5, y6, y7, y8, y9, xs, (.int .i64 (ls.length : Nat)), (.int .i64 (i : Nat)), y13, y14, y15, y16, y17, y18, y19] ∧ H2 = H' ∧ ds = []) ls.length ⟨0, _, _, _, _, _, _, _, _, _, _, _, _, rfl, Nat.zero_le _, fun j h => by omega, rfl, rfl, rfl⟩ ?_
    rintro m T H' ds ⟨i, y5, y6, y7, y8, y9, y13, y14, y15, y16, y17, y18, y19, rfl, hi, hp0, rfl, rfl, rfl⟩
    refine seq_region (ops_cons rfl (does_val rfl (ops_nil ⟨_, rfl, ?_⟩)))
    by_cases hlt : i < ls.length
    · refine seq_cond true (by show some (Value.bool _) = _; simp; omega) (seq_skip ?_)
      obtain ⟨b1, o1, c1, k1, w1, l1, e1, g1, q1⟩ := atU (h1.ext k2) hlt
      obtain ⟨b2, o2, c2, k2', w2, l2, e2, g2, q2⟩ := atU (h3.ext k2) (i := i) (by omega)
      refine seq_block (seq_region ?_)
      refine ops_cons rfl (does_iaddr (j := i) (by subst e1; rfl) rfl hlt ?_)
      refine ops_cons rfl (does_load rfl g1 q1 (ops_nil ⟨_, rfl, ?_⟩))
      refine seq_region ?_
      refine ops_cons rfl (does_val rfl ?_)
      refine ops_cons rfl (does_load rfl gy rfl ?_)
      refine ops_cons rfl (does_iaddr (j := i) (by subst e2; rfl) rfl (by omega) ?_)
      refine ops_cons rfl (does_load rfl g2 q2 ?_)
      refine ops_cons rfl (does_call rfl rfl (within_ok.mono ?_))
      rintro ⟨e4, T4, H4, ds4, v4⟩ ⟨rfl, rfl⟩
      refine ops_cons rfl (does_val rfl (ops_nil ⟨_, rfl, ?_⟩))
      cases hq : wd ls ms i with
      | true =>
        refine runs_cond false (by show some (Value.bool (!(wd ls ms i))) = _; rw [hq]; rfl) (runs_skip ?_)
        show ARuns E _ _
        refine runs_region (ops_cons rfl (does_inc rfl rfl (by omega) (ops_nil ⟨_, rfl, ?_⟩)))
        refine ⟨ls.length - (i + 1), by omega, i + 1, _, _, _, _, _, _, _, _, _, _, _, _, rfl, by omega, fun j hj => ?_, rfl, rfl, rfl⟩
        by_cases hji : j = i
        · subst hji; exact hq
        · exact hp0 j (by omega)
      | false =>
        refine runs_cond true (by show some (Value.bool (!(wd ls ms i))) = _; rw [hq]; rfl) ?_
        refine seq_region (ops_nil ⟨_, rfl, ?_⟩)
        refine runs_ret ⟨.inr rfl, _, _, rfl, rfl, ?_, k2⟩
        show Value.bool false = _
        have := wn_false hlt hq
        simp [wnF, this]
    refine seq_cond false (by show some (Value.bool _) = _; simp; omega) (seq_exit ?_)
    show ARuns E _ _
    have hi' : i = ls.length := by omega
    subst hi'
    refine seq_assoc (seq_region ?_)
    refine ops_cons rfl (does_val rfl ?_)
    refine ops_cons rfl (does_load rfl gx rfl ?_)
    refine ops_cons rfl (does_val (v := .int .i64 (ll.length : Nat)) (by obtain ⟨a, c, e⟩ := lenU h2; subst e; rfl) (ops_nil ⟨_, rfl, ?_⟩))
    refine seq_loop (fun m T H' ds => ∃ (i : Nat) (y5 y6 y7 y8 y9 y10 y11 y12 y13 y14 y18 y19 : Value), m = ll.length - i ∧ i ≤ ll.length ∧ (∀ j, j < i → wd ll ml j = true) ∧ T = [(.agg #[xs, xl]), (.agg #[ys, yl]), (.pointer (some ⟨Vec.size H, 0, none⟩)), (.pointer (some ⟨Vec.size H + 1, 0, none⟩)), (.bool false), y5, y6, y7, y8, y9, y10, y11, y12, y13, y14, xl, (.int .i64 (ll.length : Nat)), (.int .i64 (i : Nat)), y18, y19] ∧ H2 = H' ∧ ds = []) ll.length ⟨0, _, _, _, _, _, _, _, _, _, _, _, _, rfl, Nat.zero_le _, fun j h => by omega, rfl, rfl, rfl⟩ ?_
    rintro m T H' ds ⟨i, y5, y6, y7, y8, y9, y10, y11, y12, y13, y14, y18, y19, rfl, hi, hp1, rfl, rfl, rfl⟩
    refine seq_region (ops_cons rfl (does_val rfl (ops_nil ⟨_, rfl, ?_⟩)))
    by_cases hlt : i < ll.length
    · refine seq_cond true (by show some (Value.bool _) = _; simp; omega) (seq_skip ?_)
      obtain ⟨b1, o1, c1, k1, w1, l1, e1, g1, q1⟩ := atU (h2.ext k2) hlt
      obtain ⟨b2, o2, c2, k2', w2, l2, e2, g2, q2⟩ := atU (h4.ext k2) (i := i) (by omega)
      refine seq_block (seq_region ?_)
      refine ops_cons rfl (does_iaddr (j := i) (by subst e1; rfl) rfl hlt ?_)
      refine ops_cons rfl (does_load rfl g1 q1 (ops_nil ⟨_, rfl, ?_⟩))
      refine seq_region ?_
      refine ops_cons rfl (does_val rfl ?_)
      refine ops_cons rfl (does_load rfl gy rfl ?_)
      refine ops_cons rfl (does_iaddr (j := i) (by subst e2; rfl) rfl (by omega) ?_)
      refine ops_cons rfl (does_load rfl g2 q2 ?_)
      refine ops_cons rfl (does_call rfl rfl (within_ok.mono ?_))
      rintro ⟨e4, T4, H4, ds4, v4⟩ ⟨rfl, rfl⟩
      refine ops_cons rfl (does_val rfl (ops_nil ⟨_, rfl, ?_⟩))
      cases hq : wd ll ml i with
      | true =>
        refine runs_cond false (by show some (Value.bool (!(wd ll ml i))) = _; rw [hq]; rfl) (runs_skip ?_)
        show ARuns E _ _
        refine runs_region (ops_cons rfl (does_inc rfl rfl (by omega) (ops_nil ⟨_, rfl, ?_⟩)))
        refine ⟨ll.length - (i + 1), by omega, i + 1, _, _, _, _, _, _, _, _, _, _, _, _, rfl, by omega, fun j hj => ?_, rfl, rfl, rfl⟩
        by_cases hji : j = i
        · subst hji; exact hq
        · exact hp1 j (by omega)
      | false =>
        refine runs_cond true (by show some (Value.bool (!(wd ll ml i))) = _; rw [hq]; rfl) ?_
        refine seq_region (ops_nil ⟨_, rfl, ?_⟩)
        refine runs_ret ⟨.inr rfl, _, _, rfl, rfl, ?_, k2⟩
        show Value.bool false = _
        have := wn_false hlt hq
        simp [wnF, this]
    refine seq_cond false (by show some (Value.bool _) = _; simp; omega) (seq_exit ?_)
    show ARuns E _ _
    have hi' : i = ll.length := by omega
    subst hi'
    refine seq_region (ops_nil ⟨_, rfl, ?_⟩)
    refine runs_ret ⟨.inr rfl, _, _, rfl, rfl, ?_, k2⟩
    show Value.bool true = _
    simp [wnF, hn1, hn2, wn_true hp0, wn_true hp1]
  · refine seq_cond true (by show some (Value.bool (!decide _)) = _; simp [hn]) ?_
    refine seq_assoc (seq_region (ops_nil ⟨_, rfl, ?_⟩))
    refine seq_ret ⟨.inr rfl, _, _, rfl, rfl, ?_, k2⟩
    show Value.bool false = _
    simp only [wnF, decide_eq_false hn, Bool.false_and]
set_option maxHeartbeats 1000000 in
theorem rwithin_ok {xs xl ys yl : Value} {H : AH TV} {ls ll ms ml : List Int} (h1 : RowOf H xs (cellsU ls)) (h2 : RowOf H xl (cellsU ll)) (h3 : RowOf H ys (cellsU ms)) (h4 : RowOf H yl (cellsU ml)) (r1 : ls.length ≤ 4611686018427387904) (r2 : ll.length ≤ 4611686018427387904) :
    ARuns E (.call 13 [.agg #[xs, xl], .agg #[ys, yl]] H) fun r => r.v = .bool (wnF ls ll ms ml) ∧ Keeps H r.H := by
  refine runs_call rfl rfl ?_
  refine seq_region (boxes_ok rfl rfl h1.slice.2 h2.slice.2 h3.slice.2 h4.slice.2 (fun H2 z2 k2 gx gy => ⟨_, rfl, ?_⟩) (fun _ _ h => ops_nil h))
  refine seq_assoc (seq_region ?_)
  obtain ⟨a1, c1, e1⟩ := lenU h1
  obtain ⟨a2, c2, e2⟩ := lenU h2
  obtain ⟨a3, c3, e3⟩ := lenU h3
  obtain ⟨a4, c4, e4⟩ := lenU h4
  refine prologue_ok rfl rfl (by rw [e1, e2] at gx; exact gx) (by rw [e3, e4] at gy; exact gy) fun L => ⟨_, rfl, ?_⟩
  by_cases hn : ls.length = ms.length ∧ ll.length = ml.length
  · refine seq_cond false (by show some (Value.bool (!decide _)) = _; simp [hn]) (seq_skip ?_)
    obtain ⟨hn1, hn2⟩ := hn
    refine seq_assoc (seq_region (ops_nil ⟨_, rfl, ?_⟩))
    refine seq_loop (fun m T H' ds => ∃ (i : Nat) (y6 y7 y8 y9 y10 y11 : Value), m = ls.length - i ∧ i ≤ ls.length ∧ (∀ j, j < i → wd ls ms j = true) ∧ T = [(.agg #[xs, xl]), (.agg #[ys, yl]), (.pointer (some ⟨Vec.size H, 0, none⟩)), (.pointer (some ⟨Vec.size H + 1, 0, none⟩)), (.bool false), (.int .i64 (i : Nat)), y6, y7, y8, y9, y10, y11] ∧ H2 = H' ∧ ds = []) ls.length ⟨0, _, _, _, _, _, _, rfl, Nat.zero_le _, fun j h => by omega, rfl, rfl, rfl⟩ ?_
    rintro m T H' ds ⟨i, y6, y7, y8, y9, y10, y11, rfl, hi, hp0, rfl, rfl, rfl⟩
    refine seq_assoc (seq_region ?_)
    refine ops_cons rfl (does_val rfl ?_)
    refine ops_cons rfl (does_load rfl gx rfl ?_)
    refine ops_cons rfl (does_val (v := .int .i64 (ls.length : Nat)) (by obtain ⟨a, c, e⟩ := lenU h1; subst e; rfl) ?_)
    refine ops_cons rfl (does_val rfl (ops_nil ⟨_, rfl, ?_⟩))
    by_cases hlt : i < ls.length
    · refine seq_cond true (by show some (Value.bool _) = _; simp; omega) (seq_skip ?_)
      obtain ⟨b1, o1, c1, k1, w1, l1, e1, g1, q1⟩ := atU (h1.ext k2) hlt
      obtain ⟨b2, o2, c2, k2', w2, l2, e2, g2, q2⟩ := atU (h3.ext k2) (i := i) (by omega)
      refine seq_block (seq_draw ?_)
      refine draws_cons rfl (does_val rfl ⟨rfl, Nat.le_refl _, ?_⟩)
      refine draws_cons rfl (does_load rfl gx rfl ⟨rfl, Nat.le_refl _, ?_⟩)
      refine draws_cons rfl (does_iaddr (j := i) (by subst e1; rfl) rfl hlt ⟨rfl, Nat.le_refl _, ?_⟩)
      refine draws_cons rfl (does_load rfl g1 q1 ⟨rfl, Nat.le_refl _, ?_⟩)
      refine draws_cons rfl (does_val rfl ⟨rfl, Nat.le_refl _, ?_⟩)
      refine draws_cons rfl (does_load rfl gy rfl ⟨rfl, Nat.le_refl _, ?_⟩)
      refine draws_cons rfl (does_iaddr (j := i) (by subst e2; rfl) rfl (by omega) ⟨rfl, Nat.le_refl _, ?_⟩)
      refine draws_cons rfl (does_load rfl g2 q2 ⟨rfl, Nat.le_refl _, ?_⟩)
      refine draws_cons rfl (does_val rfl ⟨rfl, Nat.le_refl _, ?_⟩)
      refine draws_cons rfl (does_val rfl ⟨rfl, Nat.le_refl _, draws_nil ⟨_, rfl, ?_⟩⟩)
      cases hq : wd ls ms i with
      | true =>
        refine runs_cond false (by show some (Value.bool (!(wd ls ms i))) = _; rw [hq]; rfl) (runs_skip ?_)
        show ARuns E _ _
        refine runs_region (ops_cons rfl (does_inc rfl rfl (by omega) (ops_nil ⟨_, rfl, ?_⟩)))
        refine ⟨ls.length - (i + 1), by omega, i + 1, _, _, _, _, _, _, rfl, by omega, fun j hj => ?_, rfl, rfl, rfl⟩
        by_cases hji : j = i
        · subst hji; exact hq
        · exact hp0 j (by omega)
      | false =>
        refine runs_cond true (by show some (Value.bool (!(wd ls ms i))) = _; rw [hq]; rfl) ?_
        refine seq_region (ops_nil ⟨_, rfl, ?_⟩)
        refine runs_ret ⟨.inr rfl, _, _, rfl, rfl, ?_, k2⟩
        show Value.bool false = _
        have := wn_false hlt hq
        simp [wnF, this]
    refine seq_cond false (by show some (Value.bool _) = _; simp; omega) (seq_exit ?_)
    show ARuns E _ _
    have hi' : i = ls.length := by omega
    subst hi'
    refine seq_assoc (seq_region (ops_nil ⟨_, rfl, ?_⟩))
    refine seq_loop (fun m T H' ds => ∃ (i : Nat) (y5 y7 y8 y9 y10 y11 : Value), m = ll.length - i ∧ i ≤ ll.length ∧ (∀ j, j < i → wd ll ml j = true) ∧ T = [(.agg #[xs, xl]), (.agg #[ys, yl]), (.pointer (some ⟨Vec.size H, 0, none⟩)), (.pointer (some ⟨Vec.size H + 1, 0, none⟩)), (.bool false), y5, (.int .i64 (i : Nat)), y7, y8, y9, y10, y11] ∧ H2 = H' ∧ ds = []) ll.length ⟨0, _, _, _, _, _, _, rfl, Nat.zero_le _, fun j h => by omega, rfl, rfl, rfl⟩ ?_
    rintro m T H' ds ⟨i, y5, y7, y8, y9, y10, y11, rfl, hi, hp1, rfl, rfl, rfl⟩
    refine seq_assoc (seq_region ?_)
    refine ops_cons rfl (does_val rfl ?_)
    refine ops_cons rfl (does_load rfl gx rfl ?_)
    refine ops_cons rfl (does_val (v := .int .i64 (ll.length : Nat)) (by obtain ⟨a, c, e⟩ := lenU h2; subst e; rfl) ?_)
    refine ops_cons rfl (does_val rfl (ops_nil ⟨_, rfl, ?_⟩))
    by_cases hlt : i < ll.length
    · refine seq_cond true (by show some (Value.bool _) = _; simp; omega) (seq_skip ?_)
      obtain ⟨b1, o1, c1, k1, w1, l1, e1, g1, q1⟩ := atU (h2.ext k2) hlt
      obtain ⟨b2, o2, c2, k2', w2, l2, e2, g2, q2⟩ := atU (h4.ext k2) (i := i) (by omega)
      refine seq_block (seq_draw ?_)
      refine draws_cons rfl (does_val rfl ⟨rfl, Nat.le_refl _, ?_⟩)
      refine draws_cons rfl (does_load rfl gx rfl ⟨rfl, Nat.le_refl _, ?_⟩)
      refine draws_cons rfl (does_iaddr (j := i) (by subst e1; rfl) rfl hlt ⟨rfl, Nat.le_refl _, ?_⟩)
      refine draws_cons rfl (does_load rfl g1 q1 ⟨rfl, Nat.le_refl _, ?_⟩)
      refine draws_cons rfl (does_val rfl ⟨rfl, Nat.le_refl _, ?_⟩)
      refine draws_cons rfl (does_load rfl gy rfl ⟨rfl, Nat.le_refl _, ?_⟩)
      refine draws_cons rfl (does_iaddr (j := i) (by subst e2; rfl) rfl (by omega) ⟨rfl, Nat.le_refl _, ?_⟩)
      refine draws_cons rfl (does_load rfl g2 q2 ⟨rfl, Nat.le_refl _, ?_⟩)
      refine draws_cons rfl (does_val rfl ⟨rfl, Nat.le_refl _, ?_⟩)
      refine draws_cons rfl (does_val rfl ⟨rfl, Nat.le_refl _, draws_nil ⟨_, rfl, ?_⟩⟩)
      cases hq : wd ll ml i with
      | true =>
        refine runs_cond false (by show some (Value.bool (!(wd ll ml i))) = _; rw [hq]; rfl) (runs_skip ?_)
        show ARuns E _ _
        refine runs_region (ops_cons rfl (does_inc rfl rfl (by omega) (ops_nil ⟨_, rfl, ?_⟩)))
        refine ⟨ll.length - (i + 1), by omega, i + 1, _, _, _, _, _, _, rfl, by omega, fun j hj => ?_, rfl, rfl, rfl⟩
        by_cases hji : j = i
        · subst hji; exact hq
        · exact hp1 j (by omega)
      | false =>
        refine runs_cond true (by show some (Value.bool (!(wd ll ml i))) = _; rw [hq]; rfl) ?_
        refine seq_region (ops_nil ⟨_, rfl, ?_⟩)
        refine runs_ret ⟨.inr rfl, _, _, rfl, rfl, ?_, k2⟩
        show Value.bool false = _
        have := wn_false hlt hq
        simp [wnF, this]
    refine seq_cond false (by show some (Value.bool _) = _; simp; omega) (seq_exit ?_)
    show ARuns E _ _
    have hi' : i = ll.length := by omega
    subst hi'
    refine seq_region (ops_nil ⟨_, rfl, ?_⟩)
    refine runs_ret ⟨.inr rfl, _, _, rfl, rfl, ?_, k2⟩
    show Value.bool true = _
    simp [wnF, hn1, hn2, wn_true hp0, wn_true hp1]
  · refine seq_cond true (by show some (Value.bool (!decide _)) = _; simp [hn]) ?_
    refine seq_assoc (seq_region (ops_nil ⟨_, rfl, ?_⟩))
    refine seq_ret ⟨.inr rfl, _, _, rfl, rfl, ?_, k2⟩
    show Value.bool false = _
    simp only [wnF, decide_eq_false hn, Bool.false_and]
def od (ls ms : List Int) (j : Nat) : Int := abits .or .u64 (ls.getD j 0) (ms.getD j 0)
def ou (ls ms : List Int) (i : Nat) : List Int := (List.range i).map (od ls ms)
theorem ou_succ (ls ms : List Int) (i : Nat) : cellsU (ou ls ms (i + 1)) = cellsU (ou ls ms i) ++ [.int .u64 (od ls ms i)] := by simp [cellsU, ou, List.range_succ]
theorem ou_len (ls ms : List Int) (i : Nat) : (cellsU (ou ls ms i)).length = i := by simp [cellsU, ou]
theorem accSlice {H : AH TV} {base : Nat} {v : Value} {cs : List Value} (h : Acc H base v cs) : ∃ a n c, v = .slice a n c := by
  rcases h with ⟨rfl, _⟩ | ⟨b, _, rfl, _⟩
  · exact ⟨_, _, _, rfl⟩
  · exact ⟨_, _, _, rfl⟩
def wfU (l : List Int) : Prop := ∀ j, 0 ≤ l.getD j 0 ∧ l.getD j 0 < 18446744073709551616
/-- Two frames in boxes, and what is behind that. -/
theorem boxes_ok2 {T : AT} {H : AH TV} {Q : List Value → AH TV → Prop} {xs xl ys yl : Value} {rest : List AOper} (t0 : T[0]? = some (.agg #[xs, xl])) (t1 : T[1]? = some (.agg #[ys, yl])) (o1 : oneCell xs = true) (o2 : oneCell xl = true) (o3 : oneCell ys = true) (o4 : oneCell yl = true)
    (hq : ∀ H', Vec.size H' = Vec.size H + 2 → Keeps H H' → Vec.get H' (Vec.size H) = some (.arr [xs, xl] true 0) → Vec.get H' (Vec.size H + 1) = some (.arr [ys, yl] true 0) → AOps E T rest [.pointer (some ⟨Vec.size H + 1, 0, none⟩), .pointer (some ⟨Vec.size H, 0, none⟩)] H' Q) : AOps E T (⟨.box (.tmp 0), none, 0⟩ :: ⟨.box (.tmp 1), none, 0⟩ :: rest) [] H Q := by
  refine ops_cons rfl (does_op (.pointer (some ⟨Vec.size H, 0, none⟩)) (anew H [xs, xl]) ?_ ?_)
  · simp only [aexec, x1, sev, t0]
    show (if [xs, xl].all oneCell = true then _ else _) = _
    rw [if_pos (by simp [o1, o2])]; rfl
  refine ops_cons rfl (does_op (.pointer (some ⟨Vec.size H + 1, 0, none⟩)) (anew (anew H [xs, xl]) [ys, yl]) ?_ ?_)
  · simp only [aexec, x1, sev, t1]
    show (if [ys, yl].all oneCell = true then _ else _) = _
    rw [if_pos (by simp [o3, o4])]
    show some (Value.pointer (some ⟨Vec.size (anew H [xs, xl]), 0, none⟩), _) = _
    rw [size_anew]; rfl
  refine hq _ (by rw [size_anew, size_anew]) (((Keeps.refl H).anew _).anew _) ?_ ?_
  · rw [get_anew_lt (by rw [size_anew]; omega)]; exact get_anew_same _ _
  · have := get_anew_same (anew H [xs, xl]) [ys, yl]
    rwa [size_anew] at this
theorem does_alloc {T L : List Value} {H : AH TV} {Q : Value → AH TV → Prop} {cs : List Value} {b : Nat} (hb : Vec.size H = b) (hq : ∀ H', Vec.size H' = b + 1 → Keeps H H' → Vec.get H' b = some (.arr cs true 0) → (∀ j, j < b → Vec.get H' j = Vec.get H j) → Q (.pointer (some ⟨b, 0, none⟩)) H') : ADoes E T L (.alloc cs) H Q := by
  subst hb
  exact does_op _ _ rfl (hq _ (size_anew _ _) ((Keeps.refl H).anew _) (get_anew_same _ _) fun j hj => get_anew_lt hj)
/-- The state of a loop that pushes: block bz holds what was pushed; below 'base' all else is as it was. -/
structure Push (H0 H : AH TV) (base bz : Nat) (cs : List Value) : Prop where
  size : base ≤ Vec.size H
  keep : ∀ j, j < base → j ≠ bz → Vec.get H j = Vec.get H0 j
  cell : Vec.get H bz = some (.arr cs true 0)
theorem push_ok {H0 H H1 H2 : AH TV} {base bz : Nat} {cs cs' : List Value} {s : Value} {l : List Value} (p : Push H0 H base bz cs) (k1 : Keeps H H1) (hz : bz < base) (ha : Acc H2 base s l) (h2 : ∀ j, j < base → Vec.get H2 j = Vec.get H1 j) (hs : Vec.size H1 ≤ Vec.size H2) :
    Vec.get H2 bz = some (.arr cs true 0) ∧ Push H0 (Vec.set H2 bz (.arr cs' true 0)) base bz cs' ∧ Acc (Vec.set H2 bz (.arr cs' true 0)) base s l := by
  have hsz := p.size
  have h1 := k1.size
  refine ⟨by rw [h2 bz hz]; exact k1.some p.cell, ⟨by rw [Vec.size_set]; omega, fun j hj hne => ?_, get_set_same (by omega)⟩, ha.keep fun j hj hl => get_set_ne (by omega)⟩
  rw [get_set_ne (Ne.symm hne), h2 j hj, k1.get j (by omega), p.keep j hj hne]
set_option maxHeartbeats 4000000 in
theorem fjoin_ok {xs xl ys yl : Value} {H : AH TV} {ls ll ms ml : List Int} (h1 : RowOf H xs (cellsU ls)) (h2 : RowOf H xl (cellsU ll)) (h3 : RowOf H ys (cellsU ms)) (h4 : RowOf H yl (cellsU ml)) (r1 : (ls.length + 1) * 8 ≤ room) (r2 : (ll.length + 1) * 8 ≤ room) (w1 : wfU ls) (w2 : wfU ll) :
    ARuns E (.call 9 [.agg #[xs, xl], .agg #[ys, yl]] H) fun r => ∃ zs zl, r.v = .tuple #[.agg #[zs, zl], .bool (decide (ls.length = ms.length ∧ ll.length = ml.length))] ∧
      RowOf r.H zs (cellsU (if ls.length = ms.length ∧ ll.length = ml.length then ou ls ms ls.length else [])) ∧ RowOf r.H zl (cellsU (if ls.length = ms.length ∧ ll.length = ml.length then ou ll ml ll.length else [])) ∧ Keeps H r.H := by
  have hro : room = 140737488355328 := rfl
  rw [hro] at r1 r2
  refine runs_call rfl rfl ?_
  refine seq_region (boxes_ok2 rfl rfl h1.slice.2 h2.slice.2 h3.slice.2 h4.slice.2 fun H2 z2 k2 gx gy => ?_)
  refine ops_cons rfl (does_alloc z2 fun H3 z3 k23 gb hlo3 => ops_nil ⟨_, rfl, ?_⟩)
  have k3 := k2.trans k23
  have gx3 := k23.some gx
  have gy3 := k23.some gy
  obtain ⟨a1, c1, e1⟩ := lenU h1
  obtain ⟨a2, c2, e2⟩ := lenU h2
  obtain ⟨a3, c3, e3⟩ := lenU h3
  obtain ⟨a4, c4, e4⟩ := lenU h4
  refine seq_assoc (seq_region ?_)
  refine prologue_ok rfl rfl (by rw [e1, e2] at gx3; exact gx3) (by rw [e3, e4] at gy3; exact gy3) fun L => ⟨_, rfl, ?_⟩
  by_cases hn : ls.length = ms.length ∧ ll.length = ml.length
  · refine seq_cond false (by show some (Value.bool (!decide _)) = _; simp [hn]) (seq_skip ?_)
    rw [if_pos hn, if_pos hn, decide_eq_true hn]
    obtain ⟨hn1, hn2⟩ := hn
    refine seq_region (ops_cons rfl (does_alloc z3 fun H4 z4 k34 gz hlo4 => ops_nil ⟨_, rfl, ?_⟩))
    have k4 := k3.trans k34
    have gx4 := k34.some gx3
    have gy4 := k34.some gy3
    have gb4 := k34.some gb
    refine seq_assoc (seq_region ?_)
    refine ops_cons rfl (does_val rfl ?_)
    refine ops_cons rfl (does_load rfl gx4 rfl ?_)
    refine ops_cons rfl (does_val (v := .int .i64 (ls.length : Nat)) (by obtain ⟨a, c, e⟩ := lenU h1; subst e; rfl) (ops_nil ⟨_, rfl, ?_⟩))
    refine seq_loop (fun m T H' ds => ∃ (i : Nat) (s : Value) (y7 y8 y9 y10 y11 y15 y16 y17 y18 y19 : Value), m = ls.length - i ∧ i ≤ ls.length ∧ (Push H4 H' (Vec.size H + 4) (Vec.size H + 3) [s, .slice none 0 0] ∧ Acc H' (Vec.size H + 4) s (cellsU (ou ls ms i))) ∧ T = [(.agg #[xs, xl]), (.agg #[ys, yl]), (.pointer (some ⟨Vec.size H, 0, none⟩)), (.pointer (some ⟨Vec.size H + 1, 0, none⟩)), (.pointer (some ⟨Vec.size H + 2, 0, none⟩)), (.bool false), (.pointer (some ⟨Vec.size H + 3, 0, none⟩)), y7, y8, y9, y10, y11, xs, (.int .i64 (ls.length : Nat)), (.int .i64 (i : Nat)), y15, y16, y17, y18, y19] ∧ ds = []) ls.length ⟨0, _, _, _, _, _, _, _, _, _, _, _, rfl, Nat.zero_le _, ⟨⟨by omega, fun j _ _ => rfl, gz⟩, .inl ⟨rfl, rfl⟩⟩, rfl, rfl⟩ ?_
    rintro m T H5 ds ⟨i, s, y7, y8, y9, y10, y11, y15, y16, y17, y18, y19, rfl, hi, ⟨hp0, ha0⟩, rfl, rfl⟩
    have hps0 := hp0.size
    have gx0 : Vec.get H5 (Vec.size H) = some (.arr [xs, xl] true 0) := by rw [hp0.keep _ (by omega) (by omega)]; exact gx4
    have gy0 : Vec.get H5 (Vec.size H + 1) = some (.arr [ys, yl] true 0) := by rw [hp0.keep _ (by omega) (by omega)]; exact gy4
    have kH0 : Keeps H H5 := ⟨by omega, fun j hj => by rw [hp0.keep j (by omega) (by omega)]; exact k4.get j hj⟩
    refine seq_region (ops_cons rfl (does_val rfl (ops_nil ⟨_, rfl, ?_⟩)))
    by_cases hlt : i < ls.length
    · refine seq_cond true (by show some (Value.bool _) = _; simp; omega) (seq_skip ?_)
      obtain ⟨b1, o1, c1, kk1, ww1, l1, e1, g1, q1⟩ := atU (h1.ext kH0) hlt
      obtain ⟨b2, o2, c2, kk2, ww2, l2, e2, g2, q2⟩ := atU (h3.ext kH0) (i := i) (by omega)
      refine seq_block (seq_region ?_)
      refine ops_cons rfl (does_iaddr (j := i) (by subst e1; rfl) rfl hlt ?_)
      refine ops_cons rfl (does_load rfl g1 q1 (ops_nil ⟨_, rfl, ?_⟩))
      refine runs_draw ?_
      refine draws_cons rfl (does_val rfl ⟨rfl, Nat.le_refl _, ?_⟩)
      refine draws_cons rfl (does_load rfl gy0 rfl ⟨rfl, Nat.le_refl _, ?_⟩)
      refine draws_cons rfl (does_iaddr (j := i) (by subst e2; rfl) rfl (by omega) ⟨rfl, Nat.le_refl _, ?_⟩)
      refine draws_cons rfl (does_load rfl g2 q2 ⟨rfl, Nat.le_refl _, ?_⟩)
      refine draws_cons rfl (does_op (.slice (some ⟨Vec.size H5, 0, none⟩) 2 5) (anew H5 (cellsU [ls.getD i 0, ms.getD i 0])) rfl ⟨rfl, by rw [size_anew]; omega, ?_⟩)
      generalize hHa : anew H5 (cellsU [ls.getD i 0, ms.getD i 0]) = Ha
      have ka : Keeps H5 Ha := by rw [← hHa]; exact (Keeps.refl _).anew _
      have ga : Vec.get Ha (Vec.size H5) = some (.arr (cellsU [ls.getD i 0, ms.getD i 0]) true 0) := by rw [← hHa]; exact get_anew_same _ _
      have ra : RowOf Ha (.slice (some ⟨Vec.size H5, 0, none⟩) 2 5) (cellsU [ls.getD i 0, ms.getD i 0]) := .inr ⟨_, 0, 5, _, _, _, rfl, ga, by simp [cellsU], rfl⟩
      refine draws_cons rfl (does_call rfl rfl ((join_ok ra (by simp)).mono ?_))
      rintro ⟨e8, T8, H8, ds8, v8⟩ ⟨rfl, h8⟩
      obtain rfl : Ha = H8 := h8.symm
      have hv : [ls.getD i 0, ms.getD i 0].foldl (fun a x => abits .or .u64 a x) 0 = od ls ms i := by
        show abits .or .u64 (abits .or .u64 0 (ls.getD i 0)) (ms.getD i 0) = _
        rw [or0 (w1 i).1 (w1 i).2]; rfl
      rw [hv]
      refine ⟨rfl, Nat.le_refl _, ?_⟩
      refine draws_cons rfl (does_val rfl ⟨rfl, Nat.le_refl _, ?_⟩)
      obtain ⟨sa, sn, sc, rfl⟩ := accSlice ha0
      refine draws_cons rfl (does_load rfl (ka.some hp0.cell) rfl ⟨loadOk_of rfl (veq_slice _ _ _) ?_, Nat.le_refl _, ?_⟩)
      · intro K hK
        have : K = H5 := by simpa [isEff] using hK
        subst this
        exact aload_of hp0.cell rfl
      refine draws_cons rfl (does_op (.slice (some ⟨Vec.size Ha, 0, none⟩) 1 3) (anew Ha [.int .u64 (od ls ms i)]) rfl ⟨rfl, (show Vec.size Ha ≤ Vec.size (anew Ha _) by rw [size_anew]; omega), ?_⟩)
      have kb : Keeps H5 (anew Ha [.int .u64 (od ls ms i)]) := ka.anew _
      refine draws_cons rfl (does_append_acc (base := (Vec.size H + 4)) (cs := cellsU (ou ls ms i)) (k := 1) (new := [.int .u64 (od ls ms i)]) rfl (ha0.keep fun j _ hj => kb.get j hj) rfl rfl (by omega) (by simp only [asrc, arow, get_anew_same]; rfl) rfl rfl (by rw [ou_len]; omega) (Nat.le_trans hp0.size kb.size) ?_)
      intro s2 H9 ha9 hk9 hs9
      refine ⟨rfl, hs9, ?_⟩
      obtain ⟨sa2, sn2, sc2, rfl⟩ := accSlice ha9
      obtain ⟨gz9, hp9, ha9x⟩ := push_ok (cs' := [.slice sa2 sn2 sc2, .slice none 0 0]) hp0 kb (by omega) ha9 hk9 hs9
      refine draws_cons rfl (does_val rfl ⟨rfl, Nat.le_refl _, ?_⟩)
      refine draws_cons rfl (does_store rfl rfl rfl rfl rfl gz9 (Nat.zero_le _) (show 1 ≤ 2 by omega) ⟨rfl, by rw [Vec.size_set]; exact Nat.le_refl _, draws_nil ⟨_, rfl, ?_⟩⟩)
      show ARuns E _ _
      refine runs_region (ops_cons rfl (does_inc rfl rfl (by omega) (ops_nil ⟨_, rfl, ?_⟩)))
      rw [← ou_succ] at ha9x
      exact ⟨ls.length - (i + 1), by omega, i + 1, _, _, _, _, _, _, _, _, _, _, _, rfl, by omega, ⟨hp9, ha9x⟩, rfl, rfl⟩
    refine seq_cond false (by show some (Value.bool _) = _; simp; omega) (seq_exit ?_)
    show ARuns E _ _
    have hi' : i = ls.length := by omega
    subst hi'
    obtain ⟨s0a, s0n, s0c, rfl⟩ := accSlice ha0
    have gx5 := gx0
    have gy5 := gy0
    have k5 := kH0
    have gz5 := hp0.cell
    have gb5 : Vec.get H5 (Vec.size H + 2) = some (.arr [.slice none 0 0, .slice none 0 0] true 0) := by rw [hp0.keep _ (by omega) (by omega)]; exact gb4
    refine seq_assoc (seq_region ?_)
    refine ops_cons rfl (does_val rfl ?_)
    refine ops_cons rfl (does_load rfl gx5 rfl ?_)
    refine ops_cons rfl (does_val (v := .int .i64 (ll.length : Nat)) (by obtain ⟨a, c, e⟩ := lenU h2; subst e; rfl) (ops_nil ⟨_, rfl, ?_⟩))
    refine seq_loop (fun m T H' ds => ∃ (i : Nat) (s : Value) (y7 y8 y9 y10 y11 y12 y13 y14 y15 y19 : Value), m = ll.length - i ∧ i ≤ ll.length ∧ (Push H5 H' (Vec.size H5) (Vec.size H + 3) [.slice s0a s0n s0c, s] ∧ Acc H' (Vec.size H5) s (cellsU (ou ll ml i))) ∧ T = [(.agg #[xs, xl]), (.agg #[ys, yl]), (.pointer (some ⟨Vec.size H, 0, none⟩)), (.pointer (some ⟨Vec.size H + 1, 0, none⟩)), (.pointer (some ⟨Vec.size H + 2, 0, none⟩)), (.bool false), (.pointer (some ⟨Vec.size H + 3, 0, none⟩)), y7, y8, y9, y10, y11, y12, y13, y14, y15, xl, (.int .i64 (ll.length : Nat)), (.int .i64 (i : Nat)), y19] ∧ ds = []) ll.length ⟨0, _, _, _, _, _, _, _, _, _, _, _, rfl, Nat.zero_le _, ⟨⟨Nat.le_refl _, fun j _ _ => rfl, gz5⟩, .inl ⟨rfl, rfl⟩⟩, rfl, rfl⟩ ?_
    rintro m T H6 ds ⟨i, s, y7, y8, y9, y10, y11, y12, y13, y14, y15, y19, rfl, hi, ⟨hp1, ha1⟩, rfl, rfl⟩
    have hps1 := hp1.size
    have gx1 : Vec.get H6 (Vec.size H) = some (.arr [xs, xl] true 0) := by rw [hp1.keep _ (by omega) (by omega)]; exact gx5
    have gy1 : Vec.get H6 (Vec.size H + 1) = some (.arr [ys, yl] true 0) := by rw [hp1.keep _ (by omega) (by omega)]; exact gy5
    have kH1 : Keeps H H6 := ⟨by omega, fun j hj => by rw [hp1.keep j (by omega) (by omega)]; exact k5.get j hj⟩
    refine seq_region (ops_cons rfl (does_val rfl (ops_nil ⟨_, rfl, ?_⟩)))
    by_cases hlt : i < ll.length
    · refine seq_cond true (by show some (Value.bool _) = _; simp; omega) (seq_skip ?_)
      obtain ⟨b1, o1, c1, kk1, ww1, l1, e1, g1, q1⟩ := atU (h2.ext kH1) hlt
      obtain ⟨b2, o2, c2, kk2, ww2, l2, e2, g2, q2⟩ := atU (h4.ext kH1) (i := i) (by omega)
      refine seq_block (seq_region ?_)
      refine ops_cons rfl (does_iaddr (j := i) (by subst e1; rfl) rfl hlt ?_)
      refine ops_cons rfl (does_load rfl g1 q1 (ops_nil ⟨_, rfl, ?_⟩))
      refine runs_draw ?_
      refine draws_cons rfl (does_val rfl ⟨rfl, Nat.le_refl _, ?_⟩)
      refine draws_cons rfl (does_load rfl gy1 rfl ⟨rfl, Nat.le_refl _, ?_⟩)
      refine draws_cons rfl (does_iaddr (j := i) (by subst e2; rfl) rfl (by omega) ⟨rfl, Nat.le_refl _, ?_⟩)
      refine draws_cons rfl (does_load rfl g2 q2 ⟨rfl, Nat.le_refl _, ?_⟩)
      refine draws_cons rfl (does_op (.slice (some ⟨Vec.size H6, 0, none⟩) 2 5) (anew H6 (cellsU [ll.getD i 0, ml.getD i 0])) rfl ⟨rfl, by rw [size_anew]; omega, ?_⟩)
      generalize hHa : anew H6 (cellsU [ll.getD i 0, ml.getD i 0]) = Ha
      have ka : Keeps H6 Ha := by rw [← hHa]; exact (Keeps.refl _).anew _
      have ga : Vec.get Ha (Vec.size H6) = some (.arr (cellsU [ll.getD i 0, ml.getD i 0]) true 0) := by rw [← hHa]; exact get_anew_same _ _
      have ra : RowOf Ha (.slice (some ⟨Vec.size H6, 0, none⟩) 2 5) (cellsU [ll.getD i 0, ml.getD i 0]) := .inr ⟨_, 0, 5, _, _, _, rfl, ga, by simp [cellsU], rfl⟩
      refine draws_cons rfl (does_call rfl rfl ((join_ok ra (by simp)).mono ?_))
      rintro ⟨e8, T8, H8, ds8, v8⟩ ⟨rfl, h8⟩
      obtain rfl : Ha = H8 := h8.symm
      have hv : [ll.getD i 0, ml.getD i 0].foldl (fun a x => abits .or .u64 a x) 0 = od ll ml i := by
        show abits .or .u64 (abits .or .u64 0 (ll.getD i 0)) (ml.getD i 0) = _
        rw [or0 (w2 i).1 (w2 i).2]; rfl
      rw [hv]
      refine ⟨rfl, Nat.le_refl _, ?_⟩
      refine draws_cons rfl (does_val rfl ⟨rfl, Nat.le_refl _, ?_⟩)
      obtain ⟨sa, sn, sc, rfl⟩ := accSlice ha1
      refine draws_cons rfl (does_load rfl (ka.some hp1.cell) rfl ⟨loadOk_of rfl (veq_slice _ _ _) ?_, Nat.le_refl _, ?_⟩)
      · intro K hK
        have : K = H6 := by simpa [isEff] using hK
        subst this
        exact aload_of hp1.cell rfl
      refine draws_cons rfl (does_op (.slice (some ⟨Vec.size Ha, 0, none⟩) 1 3) (anew Ha [.int .u64 (od ll ml i)]) rfl ⟨rfl, (show Vec.size Ha ≤ Vec.size (anew Ha _) by rw [size_anew]; omega), ?_⟩)
      have kb : Keeps H6 (anew Ha [.int .u64 (od ll ml i)]) := ka.anew _
      refine draws_cons rfl (does_append_acc (base := (Vec.size H5)) (cs := cellsU (ou ll ml i)) (k := 1) (new := [.int .u64 (od ll ml i)]) rfl (ha1.keep fun j _ hj => kb.get j hj) rfl rfl (by omega) (by simp only [asrc, arow, get_anew_same]; rfl) rfl rfl (by rw [ou_len]; omega) (Nat.le_trans hp1.size kb.size) ?_)
      intro s2 H9 ha9 hk9 hs9
      refine ⟨rfl, hs9, ?_⟩
      obtain ⟨sa2, sn2, sc2, rfl⟩ := accSlice ha9
      obtain ⟨gz9, hp9, ha9x⟩ := push_ok (cs' := [.slice s0a s0n s0c, .slice sa2 sn2 sc2]) hp1 kb (by omega) ha9 hk9 hs9
      refine draws_cons rfl (does_val rfl ⟨rfl, Nat.le_refl _, ?_⟩)
      refine draws_cons rfl (does_store rfl rfl rfl rfl rfl gz9 (Nat.zero_le _) (show 2 ≤ 2 by omega) ⟨rfl, by rw [Vec.size_set]; exact Nat.le_refl _, draws_nil ⟨_, rfl, ?_⟩⟩)
      show ARuns E _ _
      refine runs_region (ops_cons rfl (does_inc rfl rfl (by omega) (ops_nil ⟨_, rfl, ?_⟩)))
      rw [← ou_succ] at ha9x
      exact ⟨ll.length - (i + 1), by omega, i + 1, _, _, _, _, _, _, _, _, _, _, _, rfl, by omega, ⟨hp9, ha9x⟩, rfl, rfl⟩
    refine seq_cond false (by show some (Value.bool _) = _; simp; omega) (seq_exit ?_)
    show ARuns E _ _
    have hi' : i = ll.length := by omega
    subst hi'
    have gb6 : Vec.get H6 (Vec.size H + 2) = some (.arr [.slice none 0 0, .slice none 0 0] true 0) := by rw [hp1.keep _ (by omega) (by omega)]; exact gb5
    obtain ⟨sa, sn, sc, rfl⟩ := accSlice ha1
    have rs : Acc H6 (Vec.size H + 4) (.slice s0a s0n s0c) (cellsU (ou ls ms ls.length)) := ha0.keep fun j q1 q2 => hp1.keep j q2 (by omega)
    refine seq_region ?_
    refine ops_cons rfl (does_load rfl hp1.cell rfl ?_)
    refine ops_cons rfl (does_store rfl rfl rfl rfl rfl gb6 (Nat.zero_le _) (show 2 ≤ 2 by omega) (ops_nil ⟨_, rfl, ?_⟩))
    refine runs_ret ⟨.inr rfl, _, _, rfl, ares_cell rfl (get_set_same (Vec.get_lt _ _ _ gb6)) rfl (ares_tmp rfl rfl), _, _, rfl, ?_, ?_, ?_⟩
    · exact Acc.row (rs.keep fun j q1 q2 => get_set_ne (by omega))
    · exact Acc.row (ha1.keep fun j q1 q2 => get_set_ne (by omega))
    · exact kH1.set _ (by omega)
  · refine seq_cond true (by show some (Value.bool (!decide _)) = _; simp [hn]) ?_
    rw [if_neg hn, if_neg hn, decide_eq_false hn]
    refine seq_assoc (seq_region ?_)
    refine ops_cons rfl (does_val rfl ?_)
    refine ops_cons rfl (does_store rfl rfl rfl rfl rfl gb (Nat.zero_le _) (show 2 ≤ 2 by omega) (ops_nil ⟨_, rfl, ?_⟩))
    refine seq_ret ⟨.inr rfl, _, _, rfl, ares_cell rfl (get_set_same (Vec.get_lt _ _ _ gb)) rfl (ares_tmp rfl rfl), _, _, rfl, .inl ⟨rfl, rfl⟩, .inl ⟨rfl, rfl⟩, ?_⟩
    exact k3.set _ (by omega)
set_option maxHeartbeats 4000000 in
theorem rjoin_ok {xs xl ys yl : Value} {H : AH TV} {ls ll ms ml : List Int} (h1 : RowOf H xs (cellsU ls)) (h2 : RowOf H xl (cellsU ll)) (h3 : RowOf H ys (cellsU ms)) (h4 : RowOf H yl (cellsU ml)) (r1 : (ls.length + 1) * 8 ≤ room) (r2 : (ll.length + 1) * 8 ≤ room) (w1 : wfU ls) (w2 : wfU ll) :
    ARuns E (.call 10 [.agg #[xs, xl], .agg #[ys, yl]] H) fun r => ∃ zs zl, r.v = .tuple #[.agg #[zs, zl], .bool (decide (ls.length = ms.length ∧ ll.length = ml.length))] ∧
      RowOf r.H zs (cellsU (if ls.length = ms.length ∧ ll.length = ml.length then ou ls ms ls.length else [])) ∧ RowOf r.H zl (cellsU (if ls.length = ms.length ∧ ll.length = ml.length then ou ll ml ll.length else [])) ∧ Keeps H r.H := by
  have hro : room = 140737488355328 := rfl
  rw [hro] at r1 r2
  refine runs_call rfl rfl ?_
  refine seq_region (boxes_ok2 rfl rfl h1.slice.2 h2.slice.2 h3.slice.2 h4.slice.2 fun H2 z2 k2 gx gy => ?_)
  refine ops_cons rfl (does_alloc z2 fun H3 z3 k23 gb hlo3 => ops_nil ⟨_, rfl, ?_⟩)
  have k3 := k2.trans k23
  have gx3 := k23.some gx
  have gy3 := k23.some gy
  obtain ⟨a1, c1, e1⟩ := lenU h1
  obtain ⟨a2, c2, e2⟩ := lenU h2
  obtain ⟨a3, c3, e3⟩ := lenU h3
  obtain ⟨a4, c4, e4⟩ := lenU h4
  refine seq_region (ops_cons rfl (does_alloc z3 fun H4 z4 k34 gz hlo4 => ops_nil ⟨_, rfl, ?_⟩))
  have k4 := k3.trans k34
  have gx4 := k34.some gx3
  have gy4 := k34.some gy3
  have gb4 := k34.some gb
  refine seq_assoc (seq_region ?_)
  refine prologue_ok rfl rfl (by rw [e1, e2] at gx4; exact gx4) (by rw [e3, e4] at gy4; exact gy4) fun L => ⟨_, rfl, ?_⟩
  by_cases hn : ls.length = ms.length ∧ ll.length = ml.length
  · refine seq_cond false (by show some (Value.bool (!decide _)) = _; simp [hn]) (seq_skip ?_)
    rw [if_pos hn, if_pos hn, decide_eq_true hn]
    obtain ⟨hn1, hn2⟩ := hn
    refine seq_assoc (seq_region ?_)
    refine ops_nil ⟨_, rfl, ?_⟩
    refine seq_loop (fun m T H' ds => ∃ (i : Nat) (s : Value) (y8 y9 y10 y11 : Value), m = ls.length - i ∧ i ≤ ls.length ∧ (Push H4 H' (Vec.size H + 4) (Vec.size H + 3) [s, .slice none 0 0] ∧ Acc H' (Vec.size H + 4) s (cellsU (ou ls ms i))) ∧ T = [(.agg #[xs, xl]), (.agg #[ys, yl]), (.pointer (some ⟨Vec.size H, 0, none⟩)), (.pointer (some ⟨Vec.size H + 1, 0, none⟩)), (.pointer (some ⟨Vec.size H + 2, 0, none⟩)), (.bool false), (.pointer (some ⟨Vec.size H + 3, 0, none⟩)), (.int .i64 (i : Nat)), y8, y9, y10, y11] ∧ ds = []) ls.length ⟨0, _, _, _, _, _, rfl, Nat.zero_le _, ⟨⟨by omega, fun j _ _ => rfl, gz⟩, .inl ⟨rfl, rfl⟩⟩, rfl, rfl⟩ ?_
    rintro m T H5 ds ⟨i, s, y8, y9, y10, y11, rfl, hi, ⟨hp0, ha0⟩, rfl, rfl⟩
    have hps0 := hp0.size
    have gx0 : Vec.get H5 (Vec.size H) = some (.arr [xs, xl] true 0) := by rw [hp0.keep _ (by omega) (by omega)]; exact gx4
    have gy0 : Vec.get H5 (Vec.size H + 1) = some (.arr [ys, yl] true 0) := by rw [hp0.keep _ (by omega) (by omega)]; exact gy4
    have kH0 : Keeps H H5 := ⟨by omega, fun j hj => by rw [hp0.keep j (by omega) (by omega)]; exact k4.get j hj⟩
    refine seq_assoc (seq_region ?_)
    refine ops_cons rfl (does_val rfl ?_)
    refine ops_cons rfl (does_load rfl gx0 rfl ?_)
    refine ops_cons rfl (does_val (v := .int .i64 (ls.length : Nat)) (by obtain ⟨a, c, e⟩ := lenU h1; subst e; rfl) ?_)
    refine ops_cons rfl (does_val rfl (ops_nil ⟨_, rfl, ?_⟩))
    by_cases hlt : i < ls.length
    · refine seq_cond true (by show some (Value.bool _) = _; simp; omega) (seq_skip ?_)
      obtain ⟨b1, o1, c1, kk1, ww1, l1, e1, g1, q1⟩ := atU (h1.ext kH0) hlt
      obtain ⟨b2, o2, c2, kk2, ww2, l2, e2, g2, q2⟩ := atU (h3.ext kH0) (i := i) (by omega)
      refine seq_block (runs_draw ?_)
      refine draws_cons rfl (does_val rfl ⟨rfl, Nat.le_refl _, ?_⟩)
      obtain ⟨sa, sn, sc, rfl⟩ := accSlice ha0
      refine draws_cons rfl (does_load rfl hp0.cell rfl ⟨rfl, Nat.le_refl _, ?_⟩)
      refine draws_cons rfl (does_val rfl ⟨rfl, Nat.le_refl _, ?_⟩)
      refine draws_cons rfl (does_load rfl gx0 rfl ⟨rfl, Nat.le_refl _, ?_⟩)
      refine draws_cons rfl (does_iaddr (j := i) (by subst e1; rfl) rfl hlt ⟨rfl, Nat.le_refl _, ?_⟩)
      refine draws_cons rfl (does_load rfl g1 q1 ⟨rfl, Nat.le_refl _, ?_⟩)
      refine draws_cons rfl (does_val rfl ⟨rfl, Nat.le_refl _, ?_⟩)
      refine draws_cons rfl (does_load rfl gy0 rfl ⟨rfl, Nat.le_refl _, ?_⟩)
      refine draws_cons rfl (does_iaddr (j := i) (by subst e2; rfl) rfl (by omega) ⟨rfl, Nat.le_refl _, ?_⟩)
      refine draws_cons rfl (does_load rfl g2 q2 ⟨rfl, Nat.le_refl _, ?_⟩)
      refine draws_cons rfl (does_val (v := .int .u64 (od ls ms i)) rfl ⟨rfl, Nat.le_refl _, ?_⟩)
      refine draws_cons rfl (does_op (.slice (some ⟨Vec.size H5, 0, none⟩) 1 3) (anew H5 [.int .u64 (od ls ms i)]) rfl ⟨rfl, by rw [size_anew]; omega, ?_⟩)
      have kb : Keeps H5 (anew H5 [.int .u64 (od ls ms i)]) := (Keeps.refl _).anew _
      refine draws_cons rfl (does_append_acc (base := (Vec.size H + 4)) (cs := cellsU (ou ls ms i)) (k := 1) (new := [.int .u64 (od ls ms i)]) rfl (ha0.keep fun j _ hj => kb.get j hj) rfl rfl (by omega) (by simp only [asrc, arow, get_anew_same]; rfl) rfl rfl (by rw [ou_len]; omega) (Nat.le_trans hp0.size kb.size) ?_)
      intro s2 H9 ha9 hk9 hs9
      refine ⟨rfl, hs9, ?_⟩
      obtain ⟨sa2, sn2, sc2, rfl⟩ := accSlice ha9
      obtain ⟨gz9, hp9, ha9x⟩ := push_ok (cs' := [.slice sa2 sn2 sc2, .slice none 0 0]) hp0 kb (by omega) ha9 hk9 hs9
      refine draws_cons rfl (does_val rfl ⟨rfl, Nat.le_refl _, ?_⟩)
      refine draws_cons rfl (does_store rfl rfl rfl rfl rfl gz9 (Nat.zero_le _) (show 1 ≤ 2 by omega) ⟨rfl, by rw [Vec.size_set]; exact Nat.le_refl _, draws_nil ⟨_, rfl, ?_⟩⟩)
      show ARuns E _ _
      refine runs_region (ops_cons rfl (does_inc rfl rfl (by omega) (ops_nil ⟨_, rfl, ?_⟩)))
      rw [← ou_succ] at ha9x
      exact ⟨ls.length - (i + 1), by omega, i + 1, _, _, _, _, _, rfl, by omega, ⟨hp9, ha9x⟩, rfl, rfl⟩
    refine seq_cond false (by show some (Value.bool _) = _; simp; omega) (seq_exit ?_)
    show ARuns E _ _
    have hi' : i = ls.length := by omega
    subst hi'
    obtain ⟨s0a, s0n, s0c, rfl⟩ := accSlice ha0
    have gx5 := gx0
    have gy5 := gy0
    have k5 := kH0
    have gz5 := hp0.cell
    have gb5 : Vec.get H5 (Vec.size H + 2) = some (.arr [.slice none 0 0, .slice none 0 0] true 0) := by rw [hp0.keep _ (by omega) (by omega)]; exact gb4
    refine seq_assoc (seq_region ?_)
    refine ops_nil ⟨_, rfl, ?_⟩
    refine seq_loop (fun m T H' ds => ∃ (i : Nat) (s : Value) (y7 y9 y10 y11 : Value), m = ll.length - i ∧ i ≤ ll.length ∧ (Push H5 H' (Vec.size H5) (Vec.size H + 3) [.slice s0a s0n s0c, s] ∧ Acc H' (Vec.size H5) s (cellsU (ou ll ml i))) ∧ T = [(.agg #[xs, xl]), (.agg #[ys, yl]), (.pointer (some ⟨Vec.size H, 0, none⟩)), (.pointer (some ⟨Vec.size H + 1, 0, none⟩)), (.pointer (some ⟨Vec.size H + 2, 0, none⟩)), (.bool false), (.pointer (some ⟨Vec.size H + 3, 0, none⟩)), y7, (.int .i64 (i : Nat)), y9, y10, y11] ∧ ds = []) ll.length ⟨0, _, _, _, _, _, rfl, Nat.zero_le _, ⟨⟨Nat.le_refl _, fun j _ _ => rfl, gz5⟩, .inl ⟨rfl, rfl⟩⟩, rfl, rfl⟩ ?_
    rintro m T H6 ds ⟨i, s, y7, y9, y10, y11, rfl, hi, ⟨hp1, ha1⟩, rfl, rfl⟩
    have hps1 := hp1.size
    have gx1 : Vec.get H6 (Vec.size H) = some (.arr [xs, xl] true 0) := by rw [hp1.keep _ (by omega) (by omega)]; exact gx5
    have gy1 : Vec.get H6 (Vec.size H + 1) = some (.arr [ys, yl] true 0) := by rw [hp1.keep _ (by omega) (by omega)]; exact gy5
    have kH1 : Keeps H H6 := ⟨by omega, fun j hj => by rw [hp1.keep j (by omega) (by omega)]; exact k5.get j hj⟩
    refine seq_assoc (seq_region ?_)
    refine ops_cons rfl (does_val rfl ?_)
    refine ops_cons rfl (does_load rfl gx1 rfl ?_)
    refine ops_cons rfl (does_val (v := .int .i64 (ll.length : Nat)) (by obtain ⟨a, c, e⟩ := lenU h2; subst e; rfl) ?_)
    refine ops_cons rfl (does_val rfl (ops_nil ⟨_, rfl, ?_⟩))
    by_cases hlt : i < ll.length
    · refine seq_cond true (by show some (Value.bool _) = _; simp; omega) (seq_skip ?_)
      obtain ⟨b1, o1, c1, kk1, ww1, l1, e1, g1, q1⟩ := atU (h2.ext kH1) hlt
      obtain ⟨b2, o2, c2, kk2, ww2, l2, e2, g2, q2⟩ := atU (h4.ext kH1) (i := i) (by omega)
      refine seq_block (runs_draw ?_)
      refine draws_cons rfl (does_val rfl ⟨rfl, Nat.le_refl _, ?_⟩)
      obtain ⟨sa, sn, sc, rfl⟩ := accSlice ha1
      refine draws_cons rfl (does_load rfl hp1.cell rfl ⟨rfl, Nat.le_refl _, ?_⟩)
      refine draws_cons rfl (does_val rfl ⟨rfl, Nat.le_refl _, ?_⟩)
      refine draws_cons rfl (does_load rfl gx1 rfl ⟨rfl, Nat.le_refl _, ?_⟩)
      refine draws_cons rfl (does_iaddr (j := i) (by subst e1; rfl) rfl hlt ⟨rfl, Nat.le_refl _, ?_⟩)
      refine draws_cons rfl (does_load rfl g1 q1 ⟨rfl, Nat.le_refl _, ?_⟩)
      refine draws_cons rfl (does_val rfl ⟨rfl, Nat.le_refl _, ?_⟩)
      refine draws_cons rfl (does_load rfl gy1 rfl ⟨rfl, Nat.le_refl _, ?_⟩)
      refine draws_cons rfl (does_iaddr (j := i) (by subst e2; rfl) rfl (by omega) ⟨rfl, Nat.le_refl _, ?_⟩)
      refine draws_cons rfl (does_load rfl g2 q2 ⟨rfl, Nat.le_refl _, ?_⟩)
      refine draws_cons rfl (does_val (v := .int .u64 (od ll ml i)) rfl ⟨rfl, Nat.le_refl _, ?_⟩)
      refine draws_cons rfl (does_op (.slice (some ⟨Vec.size H6, 0, none⟩) 1 3) (anew H6 [.int .u64 (od ll ml i)]) rfl ⟨rfl, by rw [size_anew]; omega, ?_⟩)
      have kb : Keeps H6 (anew H6 [.int .u64 (od ll ml i)]) := (Keeps.refl _).anew _
      refine draws_cons rfl (does_append_acc (base := (Vec.size H5)) (cs := cellsU (ou ll ml i)) (k := 1) (new := [.int .u64 (od ll ml i)]) rfl (ha1.keep fun j _ hj => kb.get j hj) rfl rfl (by omega) (by simp only [asrc, arow, get_anew_same]; rfl) rfl rfl (by rw [ou_len]; omega) (Nat.le_trans hp1.size kb.size) ?_)
      intro s2 H9 ha9 hk9 hs9
      refine ⟨rfl, hs9, ?_⟩
      obtain ⟨sa2, sn2, sc2, rfl⟩ := accSlice ha9
      obtain ⟨gz9, hp9, ha9x⟩ := push_ok (cs' := [.slice s0a s0n s0c, .slice sa2 sn2 sc2]) hp1 kb (by omega) ha9 hk9 hs9
      refine draws_cons rfl (does_val rfl ⟨rfl, Nat.le_refl _, ?_⟩)
      refine draws_cons rfl (does_store rfl rfl rfl rfl rfl gz9 (Nat.zero_le _) (show 2 ≤ 2 by omega) ⟨rfl, by rw [Vec.size_set]; exact Nat.le_refl _, draws_nil ⟨_, rfl, ?_⟩⟩)
      show ARuns E _ _
      refine runs_region (ops_cons rfl (does_inc rfl rfl (by omega) (ops_nil ⟨_, rfl, ?_⟩)))
      rw [← ou_succ] at ha9x
      exact ⟨ll.length - (i + 1), by omega, i + 1, _, _, _, _, _, rfl, by omega, ⟨hp9, ha9x⟩, rfl, rfl⟩
    refine seq_cond false (by show some (Value.bool _) = _; simp; omega) (seq_exit ?_)
    show ARuns E _ _
    have hi' : i = ll.length := by omega
    subst hi'
    have gb6 : Vec.get H6 (Vec.size H + 2) = some (.arr [.slice none 0 0, .slice none 0 0] true 0) := by rw [hp1.keep _ (by omega) (by omega)]; exact gb5
    obtain ⟨sa, sn, sc, rfl⟩ := accSlice ha1
    have rs : Acc H6 (Vec.size H + 4) (.slice s0a s0n s0c) (cellsU (ou ls ms ls.length)) := ha0.keep fun j q1 q2 => hp1.keep j q2 (by omega)
    refine seq_region ?_
    refine ops_cons rfl (does_load rfl hp1.cell rfl ?_)
    refine ops_cons rfl (does_store rfl rfl rfl rfl rfl gb6 (Nat.zero_le _) (show 2 ≤ 2 by omega) (ops_nil ⟨_, rfl, ?_⟩))
    refine runs_ret ⟨.inr rfl, _, _, rfl, ares_cell rfl (get_set_same (Vec.get_lt _ _ _ gb6)) rfl (ares_tmp rfl rfl), _, _, rfl, ?_, ?_, ?_⟩
    · exact Acc.row (rs.keep fun j q1 q2 => get_set_ne (by omega))
    · exact Acc.row (ha1.keep fun j q1 q2 => get_set_ne (by omega))
    · exact kH1.set _ (by omega)
  · refine seq_cond true (by show some (Value.bool (!decide _)) = _; simp [hn]) ?_
    rw [if_neg hn, if_neg hn, decide_eq_false hn]
    refine seq_assoc (seq_region ?_)
    refine ops_cons rfl (does_load rfl gz rfl ?_)
    refine ops_cons rfl (does_store rfl rfl rfl rfl rfl gb4 (Nat.zero_le _) (show 2 ≤ 2 by omega) (ops_nil ⟨_, rfl, ?_⟩))
    refine seq_ret ⟨.inr rfl, _, _, rfl, ares_cell rfl (get_set_same (Vec.get_lt _ _ _ gb4)) rfl (ares_tmp rfl rfl), _, _, rfl, .inl ⟨rfl, rfl⟩, .inl ⟨rfl, rfl⟩, ?_⟩
    exact k4.set _ (by omega)
theorem lent_row {H : AH TV} {b : Nat} {l : List Int} (h : Lent H b l) : RowOf H (lentV b l) (cellsU l) := by
  have hlen : (cellsU l).length = l.length := by simp [cellsU]
  exact .inr ⟨b, 0, _, _, _, _, by rw [hlen]; rfl, h, by simp, by simp [hlen]⟩
theorem veq_agg2 (a1 a2 : Option Addr) (n1 c1 n2 c2 : Nat) : veq (.agg #[.slice a1 n1 c1, .slice a2 n2 c2]) (.agg #[.slice a1 n1 c1, .slice a2 n2 c2]) = true := by simp [veq, veqs, veq1]
set_option maxHeartbeats 4000000 in
theorem law_ok {xs xl ys yl : Value} {H : AH TV} {ls ll ms ml : List Int} (h1 : RowOf H xs (cellsU ls)) (h2 : RowOf H xl (cellsU ll)) (h3 : RowOf H ys (cellsU ms)) (h4 : RowOf H yl (cellsU ml)) (r1 : (ls.length + 1) * 8 ≤ room) (r2 : (ll.length + 1) * 8 ≤ room) (r3 : (ms.length + 1) * 8 ≤ room) (r4 : (ml.length + 1) * 8 ≤ room) (w1 : wfU ls) (w2 : wfU ll) :
    ARuns E (.call 3 [.agg #[xs, xl], .agg #[ys, yl]] H) fun r => r.v = .bool true := by
  have hro : room = 140737488355328 := rfl
  have s1 : ls.length ≤ 4611686018427387904 := by omega
  have s2 : ll.length ≤ 4611686018427387904 := by omega
  have s3 : ms.length ≤ 4611686018427387904 := by omega
  have s4 : ml.length ≤ 4611686018427387904 := by omega
  obtain ⟨a1, c1, rfl⟩ := lenU h1
  obtain ⟨a2, c2, rfl⟩ := lenU h2
  obtain ⟨a3, c3, rfl⟩ := lenU h3
  obtain ⟨a4, c4, rfl⟩ := lenU h4
  refine runs_call rfl rfl ?_
  refine seq_region (boxes_ok rfl rfl rfl rfl rfl rfl (fun H2 z2 k2 gx gy => ⟨_, rfl, ?_⟩) (fun _ _ h => ops_nil h))
  refine seq_draw ?_
  refine draws_cons rfl (does_load rfl gx rfl ⟨rfl, Nat.le_refl _, ?_⟩)
  refine draws_cons rfl (does_call rfl rfl ((lentFrame_ok (h1.ext k2) (h2.ext k2) r1 r2).mono ?_))
  rintro ⟨e3, T3, H3, ds3, v3⟩ ⟨b1, b2, p1, p2, rfl, q1, q2, k3⟩
  simp only at q1 q2 k3
  refine ⟨rfl, k3.size, ?_⟩
  refine draws_cons rfl (does_load rfl (k3.some gy) rfl ⟨loadOk_of rfl (veq_agg2 _ _ _ _ _ _) ?_, Nat.le_refl _, ?_⟩)
  · intro K hK
    have : K = H2 := by simpa [isEff] using hK
    subst this
    exact aload_of gy rfl
  have k23 := k2.trans k3
  refine draws_cons rfl (does_call rfl rfl ((lentFrame_ok (h3.ext k23) (h4.ext k23) r3 r4).mono ?_))
  rintro ⟨e4, T4, H4, ds4, v4⟩ ⟨b3, b4, p3, p4, rfl, q3, q4, k4⟩
  simp only at q3 q4 k4
  refine ⟨rfl, k4.size, ?_⟩
  obtain ⟨n4, hz4⟩ : ∃ n, Vec.size H4 = n := ⟨_, rfl⟩
  have z3 := k3.size
  have z4 := k4.size
  refine draws_cons rfl (does_alloc hz4 fun H5 z5 (k5 : Keeps H4 H5) g5 l5 => ⟨rfl, k5.size, ?_⟩)
  refine draws_cons rfl (does_alloc z5 fun H6 z6 k6 g6 l6 => ⟨rfl, k6.size, ?_⟩)
  refine draws_cons rfl (does_store rfl rfl rfl rfl rfl (k6.some g5) (Nat.zero_le _) (show 2 ≤ 2 by omega) ⟨rfl, by rw [Vec.size_set]; exact Nat.le_refl _, ?_⟩)
  refine draws_cons rfl (does_store rfl rfl rfl rfl rfl ((get_set_ne (by omega)).trans g6) (Nat.zero_le _) (show 2 ≤ 2 by omega) ⟨rfl, Nat.le_of_eq (by simp only [Vec.size_set]), draws_nil ⟨_, rfl, ?_⟩⟩)
  generalize hH7 : Vec.set (Vec.set H6 n4 _) (n4 + 1) _ = H7
  have z7 : Vec.size H7 = n4 + 2 := by rw [← hH7, Vec.size_set, Vec.size_set, z6]
  have k47 : Keeps H4 H7 := by
    rw [← hH7]
    exact ((k5.trans k6).set _ (by omega)).set _ (by omega)
  have gk : Vec.get H7 n4 = some (.arr [lentV b1 ls, lentV b2 ll] true 0) := by
    rw [← hH7, get_set_ne (by omega), get_set_same (by omega)]; rfl
  have gl : Vec.get H7 (n4 + 1) = some (.arr [lentV b3 ms, lentV b4 ml] true 0) := by
    rw [← hH7, get_set_same (by rw [Vec.size_set]; omega)]; rfl
  have k7 : Keeps H H7 := (k23.trans k4).trans k47
  have x7 := k47.some (k4.some (k3.some gx))
  have y7 := k47.some (k4.some (k3.some gy))
  have q1' : Lent H7 b1 ls := k47.some (k4.some q1)
  have q2' : Lent H7 b2 ll := k47.some (k4.some q2)
  have q3' : Lent H7 b3 ms := k47.some q3
  have q4' : Lent H7 b4 ml := k47.some q4
  clear hH7 g5 g6 l5 l6
  -- frame.Join of what was lent
  refine seq_region ?_
  refine ops_cons rfl (does_load rfl gk rfl ?_)
  refine ops_cons rfl (does_load rfl gl rfl ?_)
  refine ops_cons rfl (does_call rfl rfl ((fjoin_ok (lent_row q1') (lent_row q2') (lent_row q3') (lent_row q4') r1 r2 w1 w2).mono ?_))
  rintro ⟨e8, T8, H8, ds8, v8⟩ ⟨zs, zl, rfl, o1, o2, k8⟩
  simp only at o1 o2 k8
  generalize hA : (if ls.length = ms.length ∧ ll.length = ml.length then ou ls ms ls.length else []) = A at o1
  generalize hB : (if ls.length = ms.length ∧ ll.length = ml.length then ou ll ml ll.length else []) = B at o2
  generalize hC : decide (ls.length = ms.length ∧ ll.length = ml.length) = C
  have sA : A.length ≤ 4611686018427387904 := by rw [← hA]; split <;> simp [ou] <;> omega
  have sB : B.length ≤ 4611686018427387904 := by rw [← hB]; split <;> simp [ou] <;> omega
  obtain ⟨az1, cz1, ez1⟩ := lenU o1
  obtain ⟨az2, cz2, ez2⟩ := lenU o2
  subst ez1 ez2
  refine ops_cons rfl (does_val rfl ?_)
  refine ops_cons rfl (does_val rfl ?_)
  obtain ⟨n8, hz8⟩ : ∃ n, Vec.size H8 = n := ⟨_, rfl⟩
  have z8 := k8.size
  refine ops_cons rfl (does_alloc hz8 fun H9 z9 (k9 : Keeps H8 H9) g9 l9 => ?_)
  refine ops_cons rfl (does_store rfl rfl rfl rfl rfl g9 (Nat.zero_le _) (show 2 ≤ 2 by omega) (ops_nil ⟨_, rfl, ?_⟩))
  generalize hH10 : Vec.set H9 n8 _ = H10
  have z10 : Vec.size H10 = n8 + 1 := by rw [← hH10, Vec.size_set, z9]
  have k10 : Keeps H8 H10 := by rw [← hH10]; exact k9.set _ (by omega)
  have g10 : Vec.get H10 n8 = some (.arr [.slice az1 A.length cz1, .slice az2 B.length cz2] true 0) := by
    rw [← hH10, get_set_same (by omega)]; rfl
  have k7a := k8.trans k10
  have x10 := k7a.some x7
  have y10 := k7a.some y7
  have ka := k7.trans k7a
  clear hH10 g9 l9
  -- the document's
  refine seq_region ?_
  refine ops_cons rfl (does_load rfl x10 rfl ?_)
  refine ops_cons rfl (does_load rfl y10 rfl ?_)
  refine ops_cons rfl (does_call rfl rfl ((rjoin_ok (h1.ext ka) (h2.ext ka) (h3.ext ka) (h4.ext ka) r1 r2 w1 w2).mono ?_))
  rintro ⟨e11, T11, H11, ds11, v11⟩ ⟨zs, zl, rfl, o3, o4, k11⟩
  simp only at o3 o4 k11
  rw [hA] at o3
  rw [hB] at o4
  rw [hC]
  obtain ⟨az3, cz3, ez3⟩ := lenU o3
  obtain ⟨az4, cz4, ez4⟩ := lenU o4
  subst ez3 ez4
  refine ops_cons rfl (does_val rfl ?_)
  refine ops_cons rfl (does_val rfl ?_)
  obtain ⟨n11, hz11⟩ : ∃ n, Vec.size H11 = n := ⟨_, rfl⟩
  have z11 := k11.size
  refine ops_cons rfl (does_alloc hz11 fun H12 z12 (k12 : Keeps H11 H12) g12 l12 => ?_)
  refine ops_cons rfl (does_store rfl rfl rfl rfl rfl g12 (Nat.zero_le _) (show 2 ≤ 2 by omega) (ops_nil ⟨_, rfl, ?_⟩))
  generalize hH13 : Vec.set H12 n11 _ = H13
  have z13 : Vec.size H13 = n11 + 1 := by rw [← hH13, Vec.size_set, z12]
  have k13 : Keeps H11 H13 := by rw [← hH13]; exact k12.set _ (by omega)
  have g13 : Vec.get H13 n11 = some (.arr [.slice az3 A.length cz3, .slice az4 B.length cz4] true 0) := by
    rw [← hH13, get_set_same (by omega)]; rfl
  have k10b := k11.trans k13
  have k7b := k7a.trans k10b
  have kb := k7.trans k7b
  have x13 := k7b.some x7
  have y13 := k7b.some y7
  have f13 := k10b.some g10
  have gk13 := k7b.some gk
  have gl13 := k7b.some gl
  clear hH13 g12 l12
  refine seq_draw ?_
  refine draws_cons rfl (does_load rfl f13 rfl ⟨rfl, Nat.le_refl _, ?_⟩)
  refine draws_cons rfl (does_load rfl g13 rfl ⟨rfl, Nat.le_refl _, ?_⟩)
  refine draws_cons rfl (does_call rfl rfl ((frame_ok ((o1.ext k10).ext k10b) ((o2.ext k10).ext k10b) (o3.ext k13) (o4.ext k13) sA sB).mono ?_))
  rintro ⟨e14, T14, H14, ds14, v14⟩ ⟨hv14, k14⟩
  simp only [decide_true, Bool.and_true] at hv14 k14
  subst hv14
  refine ⟨rfl, k14.size, ?_⟩
  refine draws_cons rfl (does_val rfl ⟨rfl, Nat.le_refl _, ?_⟩)
  refine draws_cons rfl (does_val rfl ⟨rfl, Nat.le_refl _, ?_⟩)
  refine draws_cons rfl (does_val (v := .bool true) (by show some (Value.bool ((C == C) != false), _) = _; simp) ⟨rfl, Nat.le_refl _, ?_⟩)
  refine draws_cons rfl (does_val (v := .bool true) rfl ⟨rfl, Nat.le_refl _, ?_⟩)
  refine draws_cons rfl (does_load rfl (k14.some gk13) rfl ⟨rfl, Nat.le_refl _, ?_⟩)
  refine draws_cons rfl (does_load rfl (k14.some gl13) rfl ⟨rfl, Nat.le_refl _, ?_⟩)
  have kc := k7b.trans k14
  refine draws_cons rfl (does_call rfl rfl ((fwithin_ok (lent_row (kc.some q1')) (lent_row (kc.some q2')) (lent_row (kc.some q3')) (lent_row (kc.some q4')) s1 s2).mono ?_))
  rintro ⟨e15, T15, H15, ds15, v15⟩ ⟨rfl, k15⟩
  simp only at k15
  refine ⟨rfl, k15.size, ?_⟩
  have x14 := k14.some x13
  have y14 := k14.some y13
  refine draws_cons rfl (does_load rfl (k15.some x14) rfl ⟨loadOk_of rfl (veq_agg2 _ _ _ _ _ _) ?_, Nat.le_refl _, ?_⟩)
  · intro K hK
    have : K = H14 := by simpa [isEff] using hK
    subst this
    exact aload_of x14 rfl
  refine draws_cons rfl (does_load rfl (k15.some y14) rfl ⟨loadOk_of rfl (veq_agg2 _ _ _ _ _ _) ?_, Nat.le_refl _, ?_⟩)
  · intro K hK
    have : K = H14 := by simpa [isEff] using hK
    subst this
    exact aload_of y14 rfl
  have kd := (kb.trans k14).trans k15
  refine draws_cons rfl (does_call rfl rfl ((rwithin_ok (h1.ext kd) (h2.ext kd) (h3.ext kd) (h4.ext kd) s1 s2).mono ?_))
  rintro ⟨e16, T16, H16, ds16, v16⟩ ⟨rfl, k16⟩
  simp only at k16
  refine ⟨rfl, k16.size, ?_⟩
  refine draws_cons rfl (does_val (v := .bool true) (by show some (Value.bool ((wnF ls ll ms ml == wnF ls ll ms ml) != false), _) = _; simp) ⟨rfl, Nat.le_refl _, ?_⟩)
  refine draws_cons rfl (does_val (v := .bool true) rfl ⟨rfl, Nat.le_refl _, ?_⟩)
  have ke := (kc.trans k15).trans k16
  have kf := (k14.trans k15).trans k16
  refine draws_cons rfl (does_load rfl (kf.some gk13) rfl ⟨rfl, Nat.le_refl _, ?_⟩)
  refine draws_cons rfl (does_load rfl (kf.some x13) rfl ⟨rfl, Nat.le_refl _, ?_⟩)
  have kg := kd.trans k16
  refine draws_cons rfl (does_call rfl rfl ((keptFrame_ok (ke.some q1') (ke.some q2') (h1.ext kg) (h2.ext kg) s1 s2).mono ?_))
  rintro ⟨e17, T17, H17, ds17, v17⟩ ⟨rfl, k17⟩
  simp only at k17
  refine ⟨rfl, k17.size, ?_⟩
  refine draws_cons rfl (does_val (v := .bool true) rfl ⟨rfl, Nat.le_refl _, ?_⟩)
  refine draws_cons rfl (does_load rfl (k17.some (kf.some gl13)) rfl ⟨rfl, Nat.le_refl _, ?_⟩)
  refine draws_cons rfl (does_load rfl (k17.some (kf.some y13)) rfl ⟨rfl, Nat.le_refl _, ?_⟩)
  have kh := ke.trans k17
  have ki := kg.trans k17
  refine draws_cons rfl (does_call rfl rfl ((keptFrame_ok (kh.some q3') (kh.some q4') (h3.ext ki) (h4.ext ki) s3 s4).mono ?_))
  rintro ⟨e18, T18, H18, ds18, v18⟩ ⟨rfl, k18⟩
  refine ⟨rfl, k18.size, ?_⟩
  refine draws_cons rfl (does_val (v := .bool true) rfl ⟨rfl, Nat.le_refl _, draws_nil ⟨_, rfl, ?_⟩⟩)
  exact runs_ret ⟨.inr rfl, _, _, rfl, rfl, rfl⟩
end Go.Proofs.Ytnngilpiajgobaa.FrameJoins
