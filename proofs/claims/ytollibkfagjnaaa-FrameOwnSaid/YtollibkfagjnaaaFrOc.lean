/- Lists that are gone on with while what was there is still read: appends that may or may not share the old block. Lists that were handed out are gone on with, each of them (ApartLabels' second loop). Lists of one's own in a list of one's own: all of them gone on with, and then all frozen. PUT TOGETHER by merge.py. -/
import Derived.Test.YtollibkfagjnaaaPN
set_option linter.unusedVariables false
set_option linter.unusedSimpArgs false
set_option maxRecDepth 10000
namespace Go.Proofs.Ytollibkfagjnaaa.AM
section
variable {V : Type → Type} [Vec V] {E : Env V} {T : AT} {L : List Value} {H H' H'' : AH V} {ok ok' : Nat → Prop}
/-- n cells of a block, to be read. -/
def Rd (H : AH V) (b n : Nat) (g : Nat → Value) : Prop := ∃ vs w lo, Vec.get H b = some (.arr vs w lo) ∧ n ≤ vs.length ∧ (∀ v, v ∈ vs → oneCell v = true) ∧ ∀ j, j < n → vs[j]? = some (g j)
theorem Rd.less {b n k : Nat} {g g' : Nat → Value} (h : Rd H b n g) (hk : k ≤ n) (hg : ∀ j, j < k → g j = g' j) : Rd H b k g' := by
  obtain ⟨vs, w, lo, q1, q2, q3, q4⟩ := h
  exact ⟨vs, w, lo, q1, by omega, q3, fun j hj => by rw [q4 j (by omega), hg j hj]⟩
theorem Rd.same {b n : Nat} {g : Nat → Value} (h : Rd H b n g) (hb : Vec.get H' b = Vec.get H b) : Rd H' b n g := by
  obtain ⟨vs, w, lo, q1, q2⟩ := h
  exact ⟨vs, w, lo, by rw [hb]; exact q1, q2⟩
theorem Rd.lt {b n : Nat} {g : Nat → Value} (h : Rd H b n g) : b < Vec.size H := by
  obtain ⟨vs, w, lo, q1, q2⟩ := h
  exact Vec.get_lt _ _ _ q1
/-- A list that may be gone on with: whatever room it has. -/
def Sh (H : AH V) (ok : Nat → Prop) (v : Value) (cs : List Value) : Prop :=
  (v = .slice none 0 0 ∧ cs = []) ∨ ∃ x ce vs lo, v = .slice (some ⟨x, 0, none⟩) cs.length ce ∧ ok x ∧ Vec.get H x = some (.arr vs true lo) ∧ lo ≤ cs.length ∧ vs.length = ce / 2 ∧ cs.length ≤ ce / 2 ∧ ce ≠ 0 ∧ (∀ v, v ∈ vs → oneCell v = true) ∧ ∀ j, j < cs.length → vs[j]? = cs[j]?
theorem Sh.one {v : Value} {cs : List Value} (h : Sh H ok v cs) : oneCell v = true := by
  rcases h with ⟨rfl, _⟩ | ⟨x, ce, vs, lo, rfl, _⟩ <;> rfl
theorem Sh.same {v : Value} {cs : List Value} (h : Sh H ok v cs) (hk : ∀ y n ce, v = .slice (some ⟨y, 0, none⟩) n ce → y < Vec.size H → ok y → Vec.get H' y = Vec.get H y ∧ ok' y) : Sh H' ok' v cs := by
  rcases h with h | ⟨x, ce, vs, lo, rfl, q1, q2, q3⟩
  · exact .inl h
  · obtain ⟨k1, k2⟩ := hk x _ _ rfl (Vec.get_lt _ _ _ q2) q1
    exact .inr ⟨x, ce, vs, lo, rfl, k2, by rw [k1]; exact q2, q3⟩
structure Aft (H H' : AH V) (ok : Nat → Prop) (n : Nat) : Prop where
  size : Vec.size H ≤ Vec.size H'
  oth : ∀ y, y < Vec.size H → ¬ ok y → Vec.get H' y = Vec.get H y
  old : ∀ y k g, k ≤ n → Rd H y k g → Rd H' y k g
theorem Aft.trans {n n' : Nat} (h : Aft H H' ok n) (k : Aft H' H'' ok n') (hn : n ≤ n') : Aft H H'' ok n :=
  ⟨Nat.le_trans h.size k.size, fun y h1 h2 => (k.oth y (Nat.lt_of_lt_of_le h1 h.size) h2).trans (h.oth y h1 h2), fun y m g h1 h2 => k.old y m g (by omega) (h.old y m g h1 h2)⟩
theorem aft_anew (cs : List Value) (n : Nat) : Aft H (anew H cs) ok n :=
  ⟨by rw [size_anew]; omega, fun y h1 _ => get_anew_lt h1, fun y k g _ h => h.same (get_anew_lt h.lt)⟩
theorem sh_append {v c vx : Value} {cs : List Value} {bytes : Nat} (h : Sh H ok v cs) (hsz : ∀ y, Vec.size H ≤ y → ok y) (hc : oneCell c = true) (hx : alen vx = some 1) (hsrc : asrc H 1 1 vx = some [c]) (hr : (cs.length + 1) * bytes ≤ room) :
    ∃ v' H', aappend true 1 bytes H v vx = some (v', H') ∧ Sh H' ok v' (cs ++ [c]) ∧ Aft H H' ok cs.length := by
  have hall : [c].all oneCell = true := by simp [hc]
  have e0 : ∀ n, (n + 1) * bytes ≤ room → ¬ ([c].all oneCell = false ∨ room < (n + 1) * bytes) := fun n hn => by rw [hall]; simp; exact hn
  rcases h with ⟨rfl, rfl⟩ | ⟨x, ce, vs, lo, rfl, hok, hg, hlo, hvl, hle, hce, ho, hcs⟩
  · refine ⟨.slice (some ⟨Vec.size H, 0, none⟩) 1 (2 * 1), anew H [c], ?_, .inr ⟨Vec.size H, 2, [c], 0, rfl, hsz _ (Nat.le_refl _), get_anew_same _ _, Nat.zero_le _, rfl, Nat.le_refl _, by decide, fun v hv => by rw [List.mem_singleton] at hv; rw [hv]; exact hc, fun j hj => rfl⟩, aft_anew _ _⟩
    simp only [aappend, hx, hsrc]
    rw [if_neg (e0 0 (by simpa using hr))]
    simp
  · have hxl := Vec.get_lt _ _ _ hg
    by_cases hfit : cs.length + 1 ≤ ce / 2
    · refine ⟨.slice (some ⟨x, 0, none⟩) (cs.length + 1) ce, Vec.set H x (.arr (vs.set cs.length c) true lo), ?_, .inr ⟨x, ce, vs.set cs.length c, lo, by rw [List.length_append]; rfl, hok, get_set_same hxl, by rw [List.length_append]; omega, by rw [List.length_set]; exact hvl, by rw [List.length_append]; exact hfit, hce, fun v hv => ?_, fun j hj => ?_⟩, ?_⟩
      · simp only [aappend, hx, hsrc]
        rw [if_neg (e0 _ hr), if_pos hfit]
        simp only [aput', hg, List.length_singleton]
        rw [if_pos ⟨by omega, by omega, hall⟩]
        simp only [splice, Nat.zero_add, Nat.mul_one]
      · rcases List.mem_or_eq_of_mem_set hv with hv | rfl
        · exact ho v hv
        · exact hc
      · rw [List.length_append, List.length_singleton] at hj
        by_cases e : cs.length = j
        · subst e
          rw [List.getElem?_set_self (by omega), List.getElem?_append_right (Nat.le_refl _), Nat.sub_self]; rfl
        · rw [List.getElem?_set_ne e, hcs j (by omega), List.getElem?_append_left (by omega)]
      · refine ⟨by rw [Vec.size_set]; exact Nat.le_refl _, fun y h1 h2 => get_set_ne fun e => h2 (e ▸ hok), fun y k g hk hrd => ?_⟩
        by_cases e : x = y
        · subst e
          obtain ⟨vs', w', lo', q1, q2, q3, q4⟩ := hrd
          rw [hg] at q1; cases q1
          refine ⟨_, _, _, get_set_same hxl, by rw [List.length_set]; omega, fun v hv => ?_, fun j hj => by rw [List.getElem?_set_ne (by omega)]; exact q4 j hj⟩
          rcases List.mem_or_eq_of_mem_set hv with hv | rfl
          · exact ho v hv
          · exact hc
        · exact hrd.same (get_set_ne e)
    · have hn : cs.length = ce / 2 := by omega
      have hol : (vs.drop 0).take (cs.length * 1) = vs := by rw [List.drop_zero, Nat.mul_one, List.take_of_length_le (by omega)]
      have hcell : ∀ j, j < cs.length + 1 → (vs ++ [c])[j]? = (cs ++ [c])[j]? := fun j hj => by
        by_cases e : j < cs.length
        · rw [List.getElem?_append_left (by omega), List.getElem?_append_left e, hcs j e]
        · have : j = cs.length := by omega
          subst this
          rw [List.getElem?_append_right (by omega), List.getElem?_append_right (Nat.le_refl _), hvl, ← hn]
      have hone : ∀ v, v ∈ vs ++ [c] → oneCell v = true := fun v hv => by
        rcases List.mem_append.1 hv with hv | hv
        · exact ho v hv
        · rw [List.mem_singleton] at hv; rw [hv]; exact hc
      by_cases hodd : ce % 2 = 1
      · refine ⟨.slice (some ⟨Vec.size H, 0, none⟩) (cs.length + 1) (2 * (cs.length + 1)), anew H (vs ++ [c]), ?_, .inr ⟨Vec.size H, 2 * (cs.length + 1), vs ++ [c], 0, by rw [List.length_append]; rfl, hsz _ (Nat.le_refl _), get_anew_same _ _, Nat.zero_le _, by rw [List.length_append, List.length_singleton]; omega, by rw [List.length_append, List.length_singleton]; omega, by omega, hone, fun j hj => by rw [List.length_append, List.length_singleton] at hj; exact hcell j hj⟩, aft_anew _ _⟩
        simp only [aappend, hx, hsrc]
        rw [if_neg (e0 _ hr), if_neg hfit, if_neg (by decide)]
        simp only [hg]
        rw [if_pos (by omega), if_pos hodd, hol]
      · refine ⟨.slice (some ⟨Vec.size H, 0, none⟩) (cs.length + 1) (2 * (cs.length + 1)), Vec.push (Vec.set H x (.arr vs false 0)) (.arr (vs ++ [c]) true (cs.length * 1)), ?_, .inr ⟨Vec.size H, 2 * (cs.length + 1), vs ++ [c], cs.length * 1, by rw [List.length_append]; rfl, hsz _ (Nat.le_refl _), by rw [Vec.get_push, if_pos (by rw [Vec.size_set])], by rw [List.length_append, List.length_singleton]; omega, by rw [List.length_append, List.length_singleton]; omega, by rw [List.length_append, List.length_singleton]; omega, by omega, hone, fun j hj => by rw [List.length_append, List.length_singleton] at hj; exact hcell j hj⟩, ?_⟩
        · simp only [aappend, hx, hsrc]
          rw [if_neg (e0 _ hr), if_neg hfit, if_neg (by decide)]
          simp only [hg]
          rw [if_pos (by omega), if_neg hodd, if_neg (by rintro (h | h | h | h | h) <;> first | omega | simp at h | exact h rfl), if_pos (by refine ⟨?_, by omega⟩; first | trivial | rfl), hol]
        · refine ⟨by rw [Vec.size_push, Vec.size_set]; omega, fun y h1 h2 => by rw [Vec.get_push, if_neg (by rw [Vec.size_set]; omega), get_set_ne (show x ≠ y from fun e => h2 (e ▸ hok))], fun y k g hk hrd => ?_⟩
          have hy := hrd.lt
          by_cases e : x = y
          · subst e
            obtain ⟨vs', w', lo', q1, q2, q3, q4⟩ := hrd
            rw [hg] at q1; cases q1
            exact ⟨vs, false, 0, by rw [Vec.get_push, if_neg (by rw [Vec.size_set]; omega), get_set_same hxl], q2, q3, q4⟩
          · exact hrd.same (by rw [Vec.get_push, if_neg (by rw [Vec.size_set]; omega), get_set_ne e])
theorem does_append_share {s x : Src} {v c vx : Value} {cs : List Value} {bytes : Nat} {Q : Value → AH V → Prop} (hs : sev T L s = some v) (hxs : sev T L x = some vx) (h : Sh H ok v cs) (hsz : ∀ y, Vec.size H ≤ y → ok y) (hc : oneCell c = true) (hx : alen vx = some 1) (hsrc : asrc H 1 1 vx = some [c]) (hr : (cs.length + 1) * bytes ≤ room)
    (hq : ∀ v' H', Sh H' ok v' (cs ++ [c]) → Aft H H' ok cs.length → Q v' H') : ADoes E T L (.append true 1 bytes s x) H Q := by
  obtain ⟨v', H', q1, q2, q3⟩ := sh_append (bytes := bytes) h hsz hc hx hsrc hr
  exact does_op v' H' (by simp only [aexec, x2, hs, hxs]; exact q1) (hq v' H' q2 q3)
theorem does_mkarr1 {z v : Value} {s : Src} {Q : Value → AH V → Prop} (hs : sev T L s = some v) (hv : v.cells.toList = [v]) (ho : oneCell v = true) (hq : Q (.slice (some ⟨Vec.size H, 0, none⟩) 1 3) (anew H [v])) : ADoes E T L (.mkarr 1 [z] [(0, 1, s)]) H Q :=
  does_op _ _ (by
    have hp : xParts (sev T L) [(0, 1, s)] = some [(0, 1, v)] := by simp [xParts, hs]
    simp only [aexec, xMkarr, hp, afill, hv, List.length_singleton]
    simp [splice, ho]) hq
end
end Go.Proofs.Ytollibkfagjnaaa.AM

namespace Go.Proofs.Ytollibkfagjnaaa.AM
section
variable {V : Type → Type} [Vec V] {E : Env V} {H H' H'' : AH V} {ok ok' : Nat → Prop}
def mkU (r j : Nat) : Value := .int .u64 (1000 * (r : Int) + (j : Int))
def mkV (r k : Nat) : Value := .int .u64 (500000 + 1000 * (r : Int) + (k : Int))
def mk2 (n : Nat → Nat) (r j : Nat) : Value := if j < n r then mkU r j else mkV r (j - n r)
/-- The block of a row. -/
def Blk' (u : Nat → Value) (r y : Nat) : Prop := ∃ n ce, u r = .slice (some ⟨y, 0, none⟩) n ce
structure Ap0 (H0 : AH V) (m tb : Nat) (u : Nat → Value) (n : Nat → Nat) (tv : Value) : Prop where
  tab : ∃ ce, tv = .slice (some ⟨tb, 0, none⟩) m ce
  rd : Rd H0 tb m u
  row : ∀ r, r < m → Sh H0 (fun _ => True) (u r) ((List.range (n r)).map (mkU r))
  dis : ∀ r r' y, r < m → r' < m → Blk' u r y → Blk' u r' y → r = r'
  tdis : ∀ r, r < m → ¬ Blk' u r tb
  len : ∀ r, r < m → n r ≤ 17592186044000
  few : m ≤ 1000
structure Ap2 (H0 H : AH V) (i : Nat) (u : Nat → Value) (n : Nat → Nat) (ls : List Value) (w : Value) : Prop where
  size : Vec.size H0 ≤ Vec.size H
  oth : ∀ y, y < Vec.size H0 → (∀ r, r < i → ¬ Blk' u r y) → Vec.get H y = Vec.get H0 y
  old : ∀ r, r < i → ∀ y, Blk' u r y → Rd H y (n r) (mkU r)
  len : ls.length = i
  new : ∀ r l, ls[r]? = some l → ∃ x ce, l = .slice (some ⟨x, 0, none⟩) (n r + 30) ce ∧ n r + 30 ≤ ce / 2 ∧ Rd H x (n r + 30) (mk2 n r) ∧ (Blk' u r x ∨ Vec.size H0 ≤ x)
  more : Sh H (fun y => Vec.size H0 ≤ y ∧ ∀ l, l ∈ ls → ∀ k ce, l ≠ .slice (some ⟨y, 0, none⟩) k ce) w ls
structure Ap3 (H0 H : AH V) (i k : Nat) (u : Nat → Value) (n : Nat → Nat) (l : Value) : Prop where
  size : Vec.size H0 ≤ Vec.size H
  oth : ∀ y, y < Vec.size H0 → ¬ Blk' u i y → Vec.get H y = Vec.get H0 y
  old : ∀ y, Blk' u i y → Rd H y (n i) (mkU i)
  new : Sh H (fun y => Blk' u i y ∨ Vec.size H0 ≤ y) l ((List.range (n i)).map (mkU i) ++ (List.range k).map (mkV i))
theorem Sh.len {v : Value} {cs : List Value} (h : Sh H ok v cs) : alen v = some cs.length := by
  rcases h with ⟨rfl, rfl⟩ | ⟨x, ce, vs, lo, rfl, q⟩ <;> rfl
theorem Sh.rd {cs : List Value} {g : Nat → Value} {x n ce k : Nat} (h : Sh H ok (.slice (some ⟨x, 0, none⟩) n ce) cs) (hk : k ≤ cs.length) (hg : ∀ j, j < k → cs[j]? = some (g j)) : n = cs.length ∧ n ≤ ce / 2 ∧ Rd H x k g ∧ ok x := by
  rcases h with ⟨h, _⟩ | ⟨x', ce', vs, lo, h, q1, q2, q3, q4, q5, q6, q7, q8⟩
  · cases h
  · cases h
    exact ⟨rfl, q5, ⟨vs, _, _, q2, by omega, q7, fun j hj => by rw [q8 j (by omega), hg j hj]⟩, q1⟩
theorem Ap0.lt {m tb : Nat} {u : Nat → Value} {n : Nat → Nat} {tv : Value} (h : Ap0 H m tb u n tv) {r y : Nat} (hr : r < m) (hy : Blk' u r y) : y < Vec.size H ∧ Rd H y (n r) (mkU r) := by
  obtain ⟨k, ce, e⟩ := hy
  have := h.row r hr
  rw [e] at this
  obtain ⟨q1, q2, q3, q4⟩ := this.rd (k := n r) (g := mkU r) (by simp) (fun j hj => by simp [hj])
  exact ⟨q3.lt, q3⟩
theorem range_snoc {f : Nat → Value} {k : Nat} : (List.range k).map f ++ [f k] = (List.range (k + 1)).map f := by rw [List.range_succ, List.map_append]; rfl
abbrev apB3 : ACode := (.seq (.seq (.region [⟨.bin .lss (.tmp 7) (.const (.int .i64 30)), none, 0⟩] [(15, (.loc 0))])
        (.cond (.tmp 15)
         (.skip)
         (.exit 6)))
       (.seq (.block 7 (.region [⟨.bin .mul (.const (.int .i64 1000)) (.tmp 5), none, 0⟩, ⟨.bin .add (.const (.int .i64 500000)) (.loc 0), none, 0⟩, ⟨.bin .add (.loc 0) (.tmp 7), none, 0⟩, ⟨.conv .u64 (.loc 0), none, 0⟩, ⟨.mkarr 1 [(.int .u64 0)] [(0, 1, (.loc 0))], none, 0⟩, ⟨.append true 1 8 (.tmp 6) (.loc 0), none, 0⟩] [(6, (.loc 0))]))
       (.region [⟨.bin .add (.tmp 7) (.const (.int .i64 1)), none, 0⟩] [(7, (.loc 0))])))
abbrev apB2 : ACode := (.seq (.seq (.region [⟨.len (.tmp 0), none, 0⟩, ⟨.bin .lss (.tmp 5) (.loc 0), none, 0⟩] [(14, (.loc 0))])
     (.cond (.tmp 14)
      (.skip)
      (.exit 4)))
    (.seq (.block 5 (.seq (.region [⟨.iaddr 1 (.tmp 0) (.tmp 5), none, 0⟩, ⟨.load none (.loc 0), none, 0⟩] [(6, (.loc 0))])
     (.seq (.seq (.region [] [(7, (.const (.int .i64 0)))])
      (.block 6 (.loop apB3)))
     (.region [⟨.mkarr 1 [(.slice none 0 0)] [(0, 1, (.tmp 6))], none, 0⟩, ⟨.append true 1 24 (.tmp 4) (.loc 0), none, 0⟩] [(4, (.loc 0))]))))
    (.region [⟨.bin .add (.tmp 5) (.const (.int .i64 1)), none, 0⟩] [(5, (.loc 0))])))
def aT (t : Nat → Value) (w i l k c d : Value) : List Value := [t 0, t 1, t 2, t 3, w, i, l, k, t 8, t 9, t 10, t 11, t 12, t 13, c, d, t 16, t 17, t 18, t 19, t 20]
/-- One row gone on with. -/
theorem ap3_run {H0 : AH V} {m tb : Nat} {u : Nat → Value} {n : Nat → Nat} {tv : Value} (h0 : Ap0 H0 m tb u n tv) {Hi : AH V} (hsz : Vec.size H0 ≤ Vec.size Hi) {i : Nat} (hi : i < m) (heq : ∀ y, Blk' u i y → Vec.get Hi y = Vec.get H0 y) {inR : Bool} {c : ACode} {ds : List Nat} {Q : Res V → Prop} {t : Nat → Value} {w c14 c15 : Value}
    (hk : ∀ H l d, Ap3 Hi H i 30 u n l → ARuns E (.code inR c (aT t w (.int .i64 (i : Nat)) l (.int .i64 ((30 : Nat) : Int)) c14 d) H ds) Q) : ARuns E (.code inR (.seq (.block 6 (.loop apB3)) c) (aT t w (.int .i64 (i : Nat)) (u i) (.int .i64 0) c14 c15) Hi ds) Q := by
  have hlen := h0.len i hi
  have hfew := h0.few
  have h3 : Ap3 Hi Hi i 0 u n (u i) := by
    refine ⟨Nat.le_refl _, fun _ _ _ => rfl, fun y hy => ((h0.lt hi hy).2).same (heq y hy), ?_⟩
    rw [List.range_zero, List.map_nil, List.append_nil]
    exact (h0.row i hi).same fun y k ce e h1 _ => ⟨heq y ⟨_, _, e⟩, .inl ⟨_, _, e⟩⟩
  refine seq_loop (fun q T H ds' => ∃ (k : Nat) (l d : Value), q = 30 - k ∧ k ≤ 30 ∧ T = aT t w (.int .i64 (i : Nat)) l (.int .i64 (k : Nat)) c14 d ∧ Ap3 Hi H i k u n l ∧ ds' = ds) 30 ⟨0, _, _, rfl, by omega, rfl, h3, rfl⟩ ?_
  rintro q T H ds' ⟨k, l, d, rfl, hk30, rfl, hA, rfl⟩
  unfold aT
  refine seq_assoc (seq_region ?_)
  refine ops_cons rfl (does_val rfl (ops_nil ⟨_, rfl, ?_⟩))
  by_cases hlt : k < 30
  · refine seq_cond true (by show some (Value.bool _) = _; simp; omega) (seq_skip ?_)
    refine seq_block (runs_region ?_)
    refine ops_cons rfl (does_val (v := .int .i64 (1000 * (i : Int))) (by show some (Value.int .i64 (aw .i64 (1000 * (i : Int))), H) = _; rw [aw64 (by omega) (by omega)]) ?_)
    refine ops_cons rfl (does_val (v := .int .i64 (500000 + 1000 * (i : Int))) (by show some (Value.int .i64 (aw .i64 (500000 + 1000 * (i : Int))), H) = _; rw [aw64 (by omega) (by omega)]) ?_)
    refine ops_cons rfl (does_val (v := .int .i64 (500000 + 1000 * (i : Int) + (k : Int))) (by show some (Value.int .i64 (aw .i64 (500000 + 1000 * (i : Int) + (k : Int))), H) = _; rw [aw64 (by omega) (by omega)]) ?_)
    refine ops_cons rfl (does_val (v := mkV i k) (by
      show some (Value.int .u64 (aw .u64 (500000 + 1000 * (i : Int) + (k : Int))), H) = _
      rw [show aw .u64 (500000 + 1000 * (i : Int) + (k : Int)) = 500000 + 1000 * (i : Int) + (k : Int) by simp only [aw]; omega]
      rfl) ?_)
    refine ops_cons rfl (does_mkarr1 (v := mkV i k) rfl rfl rfl ?_)
    have hkeep : Aft H (anew H [mkV i k]) (fun y => Blk' u i y ∨ Vec.size Hi ≤ y) (n i + k) := aft_anew _ _
    have hcl : ((List.range (n i)).map (mkU i) ++ (List.range k).map (mkV i)).length = n i + k := by simp
    refine ops_cons rfl (does_append_share (v := l) (c := mkV i k) (cs := (List.range (n i)).map (mkU i) ++ (List.range k).map (mkV i)) (ok := fun y => Blk' u i y ∨ Vec.size Hi ≤ y) rfl rfl (hA.new.same fun y _ _ _ h1 h2 => ⟨get_anew_lt h1, h2⟩) (fun y hy => .inr (by rw [size_anew] at hy; have := hA.size; omega)) rfl rfl (by simp only [asrc, arow, get_anew_same]; rfl) (by rw [hcl]; unfold room; omega) fun v' H' hs ha => ops_nil ⟨_, rfl, ?_⟩)
    rw [hcl] at ha
    have hb := hkeep.trans ha (Nat.le_refl _)
    refine runs_region ?_
    refine ops_cons rfl (does_inc rfl rfl (by omega) (ops_nil ⟨_, rfl, ?_⟩))
    refine ⟨30 - (k + 1), by omega, k + 1, _, _, rfl, by omega, rfl, ⟨Nat.le_trans hA.size hb.size, fun y h1 h2 => ?_, fun y hy => hb.old y _ _ (by omega) (hA.old y hy), ?_⟩, rfl⟩
    · rw [hb.oth y (Nat.lt_of_lt_of_le h1 hA.size) (by rintro (h | h); exact h2 h; omega), hA.oth y h1 h2]
    · rw [← range_snoc, ← List.append_assoc]
      exact hs
  · have hk0 : k = 30 := by omega
    subst hk0
    refine seq_cond false (by show some (Value.bool _) = _; simp) (seq_exit ?_)
    exact hk _ _ _ hA
theorem ap2_run {H0 : AH V} {m tb : Nat} {u : Nat → Value} {n : Nat → Nat} {t : Nat → Value} (h0 : Ap0 H0 m tb u n (t 0)) {inR : Bool} {c : ACode} {ds : List Nat} {Q : Res V → Prop} {l0 k0 c0 d0 : Value}
    (hk : ∀ H ls w l k' c14 d, Ap2 H0 H m u n ls w → ARuns E (.code inR c (aT t w (.int .i64 (m : Nat)) l k' c14 d) H ds) Q) : ARuns E (.code inR (.seq (.block 4 (.loop apB2)) c) (aT t (.slice none 0 0) (.int .i64 0) l0 k0 c0 d0) H0 ds) Q := by
  have hfew := h0.few
  obtain ⟨cet, htv⟩ := h0.tab
  have hinit : Ap2 H0 H0 0 u n [] (.slice none 0 0) := ⟨Nat.le_refl _, fun _ _ _ => rfl, fun r hr => absurd hr (Nat.not_lt_zero _), rfl, fun r l h => by simp at h, .inl ⟨rfl, rfl⟩⟩
  refine seq_loop (fun q T H ds' => ∃ (i : Nat) (ls : List Value) (w l k' c14 d : Value), q = m - i ∧ i ≤ m ∧ T = aT t w (.int .i64 (i : Nat)) l k' c14 d ∧ Ap2 H0 H i u n ls w ∧ ds' = ds) m ⟨0, _, _, _, _, _, _, by omega, by omega, rfl, hinit, rfl⟩ ?_
  rintro q T Hi ds' ⟨i, ls, w, l, k', c14, d, rfl, him, rfl, hA, rfl⟩
  unfold aT
  refine seq_assoc (seq_region ?_)
  refine ops_cons rfl (does_val (v := .int .i64 (m : Nat)) (by show withH Hi (fLen (t 0)) = _; rw [htv]; rfl) ?_)
  refine ops_cons rfl (does_val rfl (ops_nil ⟨_, rfl, ?_⟩))
  by_cases hlt : i < m
  · refine seq_cond true (by show some (Value.bool _) = _; simp; omega) (seq_skip ?_)
    have heq : ∀ y, Blk' u i y → Vec.get Hi y = Vec.get H0 y := fun y hy => hA.oth y (h0.lt hlt hy).1 fun r hr hy' => by have := h0.dis r i y (by omega) hlt hy' hy; omega
    have htab : Rd Hi tb m u := h0.rd.same (hA.oth tb h0.rd.lt fun r hr => h0.tdis r (by omega))
    obtain ⟨tvs, tw, tlo, z1, z2, z3, z4⟩ := htab
    refine seq_block (seq_region ?_)
    refine ops_cons rfl (does_iaddr (b := tb) (o := 0) (n := m) (ce := cet) (j := i) (by show some (t 0) = _; rw [htv]) rfl hlt ?_)
    refine ops_cons rfl (does_load (off := 0 + i * 1) rfl z1 (v := u i) (by show tvs[0 + i * 1]? = _; rw [Nat.zero_add, Nat.mul_one]; exact z4 i hlt) (ops_nil ⟨_, rfl, ?_⟩))
    refine seq_assoc (seq_region (ops_nil ⟨_, rfl, ?_⟩))
    refine ap3_run h0 hA.size hlt heq fun H1 l1 d1 hB => ?_
    unfold aT
    refine runs_region ?_
    have hl1 := hB.new.one
    have hcl1 : ∃ x ce, l1 = .slice (some ⟨x, 0, none⟩) (n i + 30) ce := by
      rcases hB.new with ⟨_, h⟩ | ⟨x, ce, vs, lo, h, _⟩
      · have := congrArg List.length h; simp at this
      · exact ⟨x, ce, by rw [h]; simp⟩
    obtain ⟨x1, ce1, rfl⟩ := hcl1
    obtain ⟨_, y2, y3, y4⟩ := hB.new.rd (k := n i + 30) (g := mk2 n i) (by simp) (fun j hj => by
      unfold mk2
      by_cases e : j < n i
      · rw [if_pos e, List.getElem?_append_left (by simpa using e)]; simp [e]
      · rw [if_neg e, List.getElem?_append_right (by simp; omega)]
        simp only [List.length_map, List.length_range, List.getElem?_map]
        rw [List.getElem?_range (by omega)]; rfl)
    have hx0 : Blk' u i x1 ∨ Vec.size H0 ≤ x1 := y4.imp id fun h => Nat.le_trans hA.size h
    have hnew1 : ∀ r l, ls[r]? = some l → ∃ x ce, l = .slice (some ⟨x, 0, none⟩) (n r + 30) ce ∧ n r + 30 ≤ ce / 2 ∧ Rd H1 x (n r + 30) (mk2 n r) ∧ (Blk' u r x ∨ Vec.size H0 ≤ x) := fun r l hl => by
      obtain ⟨x, ce, g1, g2, g3, g4⟩ := hA.new r l hl
      have hrl := (List.getElem?_eq_some_iff.1 hl).1
      rw [hA.len] at hrl
      refine ⟨x, ce, g1, g2, g3.same (hB.oth x g3.lt fun hb => ?_), g4⟩
      rcases g4 with g4 | g4
      · have := h0.dis r i x (by omega) hlt g4 hb; omega
      · have := (h0.lt hlt hb).1; omega
    have hmore1 : Sh H1 (fun y => Vec.size H0 ≤ y ∧ ∀ l, l ∈ ls → ∀ k ce, l ≠ .slice (some ⟨y, 0, none⟩) k ce) w ls := hA.more.same fun y k ce e h1 h2 => ⟨hB.oth y h1 fun hb => by have := (h0.lt hlt hb).1; omega, h2⟩
    refine ops_cons rfl (does_mkarr1 (v := .slice (some ⟨x1, 0, none⟩) (n i + 30) ce1) rfl rfl rfl ?_)
    have hk1 : Aft H1 (anew H1 [.slice (some ⟨x1, 0, none⟩) (n i + 30) ce1]) (fun y => Vec.size H0 ≤ y ∧ (∀ l, l ∈ ls → ∀ k ce, l ≠ .slice (some ⟨y, 0, none⟩) k ce) ∧ y ≠ x1) ls.length := aft_anew _ _
    have hx1l := y3.lt
    refine ops_cons rfl (does_append_share (v := w) (c := .slice (some ⟨x1, 0, none⟩) (n i + 30) ce1) (cs := ls) (ok := fun y => Vec.size H0 ≤ y ∧ (∀ l, l ∈ ls → ∀ k ce, l ≠ .slice (some ⟨y, 0, none⟩) k ce) ∧ y ≠ x1) rfl rfl (hmore1.same fun y k ce e h1 h2 => ⟨get_anew_lt h1, h2.1, h2.2, fun e1 => ?_⟩) (fun y hy => ?_) rfl rfl (by simp only [asrc, arow, get_anew_same]; rfl) (by rw [hA.len]; unfold room; omega) fun v' H' hs ha => ops_nil ⟨_, rfl, ?_⟩)
    · subst e1
      have hw : y < Vec.size Hi := by
        rcases hA.more with ⟨h, _⟩ | ⟨x, ce', vs, lo, h, _, q2, _⟩
        · rw [h] at e; cases e
        · rw [h] at e; cases e; exact Vec.get_lt _ _ _ q2
      rcases y4 with h | h
      · have := (h0.lt hlt h).1; have := h2.1; omega
      · omega
    · rw [size_anew] at hy
      have := hB.size
      have := hA.size
      refine ⟨by omega, fun l hl k ce e => ?_, by omega⟩
      obtain ⟨r, hr⟩ := List.mem_iff_getElem?.1 hl
      obtain ⟨x, ce', g1, g2, g3, g4⟩ := hnew1 r l hr
      rw [g1] at e; cases e
      have := g3.lt
      omega
    have hb := hk1.trans ha (Nat.le_refl _)
    refine runs_region ?_
    refine ops_cons rfl (does_inc rfl rfl (by omega) (ops_nil ⟨_, rfl, ?_⟩))
    have hsz : Vec.size H0 ≤ Vec.size H' := by have := hA.size; have := hB.size; have := hb.size; omega
    refine ⟨m - (i + 1), by omega, i + 1, ls ++ [.slice (some ⟨x1, 0, none⟩) (n i + 30) ce1], v', _, _, _, _, rfl, by omega, rfl, ⟨hsz, fun y h1 h2 => ?_, fun r hr y hy => ?_, by rw [List.length_append, hA.len]; rfl, fun r l hl => ?_, ?_⟩, rfl⟩
    · have := hA.size
      have := hB.size
      rw [hb.oth y (by omega) (fun h => by omega), hB.oth y (by omega) (h2 i (by omega)), hA.oth y h1 fun r hr => h2 r (by omega)]
    · have hyl := (h0.lt (show r < m by omega) hy).1
      have := hA.size
      have := hB.size
      by_cases e : r = i
      · subst e
        exact (hB.old y hy).same (hb.oth y (by omega) fun h => by omega)
      · refine ((hA.old r (by omega) y hy).same (hB.oth y (by omega) fun hb' => e ?_)).same (hb.oth y (by omega) fun h => by omega)
        exact h0.dis r i y (by omega) hlt hy hb'
    · by_cases e : r < ls.length
      · rw [List.getElem?_append_left e] at hl
        obtain ⟨x, ce, g1, g2, g3, g4⟩ := hnew1 r l hl
        refine ⟨x, ce, g1, g2, g3.same (hb.oth x g3.lt fun h => ?_), g4⟩
        exact h.2.1 l (List.mem_of_getElem? hl) _ _ g1
      · rw [List.getElem?_append_right (by omega)] at hl
        have hr : r = i := by
          have := (List.getElem?_eq_some_iff.1 hl).1
          rw [List.length_singleton] at this
          have := hA.len
          omega
        subst hr
        rw [hA.len, Nat.sub_self] at hl
        simp only [List.getElem?_cons_zero, Option.some.injEq] at hl
        subst hl
        exact ⟨x1, ce1, rfl, y2, y3.same (hb.oth x1 hx1l fun h => h.2.2 rfl), hx0⟩
    · refine hs.same fun y k ce e h1 h2 => ⟨rfl, h2.1, fun l hl k' ce' e' => ?_⟩
      rcases List.mem_append.1 hl with hl | hl
      · exact h2.2.1 l hl _ _ e'
      · rw [List.mem_singleton] at hl
        rw [hl] at e'; cases e'
        exact h2.2.2 rfl
  · have hk0 : i = m := by omega
    subst hk0
    refine seq_cond false (by show some (Value.bool _) = _; simp) (seq_exit ?_)
    exact hk _ _ _ _ _ _ _ hA
end
end Go.Proofs.Ytollibkfagjnaaa.AM

namespace Go.Proofs.Ytollibkfagjnaaa.AM
section
variable {V : Type → Type} [Vec V] {E : Env V} {F F' F0 : Nat → Prop} {ρ ρ' ρ0 : PR} {H H' H0 : AH V} {hp hp' hp0 : PH} {ds ds' : List Nat} {T L : List PV} {Ta La : List Value} {inR : Bool} {p : List Nat} {a b c : ACode} {R : AE → List PV → PH → Prop}
def apM (i : Nat) : Nat → List PV := fun j => [.s (mkU i j)]
def apR (len : Nat → Nat) (i : Nat) : Nat → List PV := fun j => [.s (mk2 len i j)]
def apX (len : Nat → Nat) (i : Nat) : PV := .frz 1 (len i) (len i) (apM i)
def apW (len : Nat → Nat) (i : Nat) : PV := .frz 1 (len i + 30) (len i + 30) (apR len i)
def apA (m : Nat) (len : Nat → Nat) : PV := .frz 1 m m (fun i => [apX len i])
def apF (m : Nat) (len : Nat → Nat) : PV := .frz 1 m m (fun i => [apW len i])
/-- A list of m lists of one's own, no two the same, marked where P says so. -/
def TabW (hp : PH) (bk m : Nat) (len : Nat → Nat) (P : Nat → Nat → Prop) : Prop := ∃ (cs : List PV) (ptr : Nat → Nat), hp[bk]? = some (.cel cs) ∧ cs.length = m ∧
  (∀ r, r < m → len r ≤ 17592186044000 ∧ cs[r]? = some (.vec 1 (ptr r) (len r)) ∧ ∃ mx f full, hp[ptr r]? = some (.vec 1 mx f full) ∧ len r ≤ mx ∧ (∀ j, j < len r → (f j).length = 1) ∧ ∀ j, j < len r → P r j → f j = [.s (mkU r j)]) ∧
  ∀ r r', r < m → r' < m → ptr r = ptr r' → r = r'
theorem TabW.imp {bk m : Nat} {len : Nat → Nat} {P P' : Nat → Nat → Prop} (h : TabW hp bk m len P) (hP : ∀ r j, r < m → j < len r → P' r j → P r j) : TabW hp bk m len P' := by
  obtain ⟨cs, ptr, h1, h2, h3, h4⟩ := h
  refine ⟨cs, ptr, h1, h2, fun r hr => ?_, h4⟩
  obtain ⟨q1, q2, mx, f, full, q3, q4, q5, q6⟩ := h3 r hr
  exact ⟨q1, q2, mx, f, full, q3, q4, q5, fun j hj hp => q6 j hj (hP r j hr hj hp)⟩
theorem frz_rd {n ce b : Nat} {g : Nat → Value} {P : Nat → PV} (hF : F b) (h : Rd H b n g) (hn : n ≤ ce / 2) (hP : ∀ j, j < n → FRel F H (P j) (g j)) : FRel F H (.frz 1 n n fun j => [P j]) (.slice (some ⟨b, 0, none⟩) n ce) := by
  obtain ⟨vs, w, lo, q1, q2, q3, q4⟩ := h
  refine .frz hF q1 (Nat.le_refl _) hn (by omega) (fun i hi => rfl) q3 fun i j c v hi h1 h2 => ?_
  have hj : j = 0 := by
    have := (List.getElem?_eq_some_iff.1 h1).1
    simpa using this
  subst hj
  rw [Nat.zero_add, Nat.mul_one, Nat.add_zero, q4 i hi] at h2
  cases h2
  simp only [List.getElem?_cons_zero, Option.some.injEq] at h1
  subst h1
  exact hP i hi
theorem TabW.start {bk m : Nat} {len : Nat → Nat} (hr : Rel F ρ hp ds H) (hI : TabW hp bk m len fun r _ => r < m) (hm : m ≤ 1000) {tv : Value} (hv : PRel F ρ H (.vec 1 bk m) tv) :
    ∃ (tb ce : Nat) (u : Nat → Value), tv = .slice (some ⟨tb, 0, none⟩) m ce ∧ m ≤ ce / 2 ∧ Own ρ tb ∧ Ap0 H m tb u len tv ∧ (∀ r y, r < m → Blk' u r y → Own ρ y ∧ ¬ F y) ∧ ∀ r, r < m → (u r = .slice none 0 0 ∧ len r = 0) ∨ ∃ y ce', u r = .slice (some ⟨y, 0, none⟩) (len r) ce' ∧ len r ≤ ce' / 2 := by
  obtain ⟨cs, ptr, h1, h2, h3, h4⟩ := hI
  obtain ⟨tb, e, vs, r1, r2, r3, r4, r5⟩ := hr.blk _ _ h1
  have hvl := r5.len
  cases hv with
  | fr h => cases h
  | vecz h hn => rw [h] at r1; cases r1
  | @vec _ _ _ a ce h hn =>
    rw [h] at r1; cases r1
    have hu : ∀ r, r < m → vs[r]? = some (vs.getD r undef) := fun r hr => by rw [List.getD_eq_getElem?_getD, List.getElem?_eq_getElem (by omega)]; rfl
    have key : ∀ r, r < m → (vs.getD r undef = .slice none 0 0 ∧ len r = 0) ∨ ∃ y ce', vs.getD r undef = .slice (some ⟨y, 0, none⟩) (len r) ce' ∧ ρ (ptr r) = some (some (y, ce')) ∧ ¬ F y ∧ len r ≤ ce' / 2 ∧ Sh H (fun _ => True) (vs.getD r undef) ((List.range (len r)).map (mkU r)) := fun r hr' => by
      obtain ⟨q1, q2, mx, f, full, q3, q4, q5, q6⟩ := h3 r hr'
      have hpr := r5.at' r _ _ q2 (hu r hr')
      obtain ⟨ur, hur⟩ : ∃ ur, vs.getD r undef = ur := ⟨_, rfl⟩
      rw [hur] at hpr ⊢
      cases hpr with
      | fr h => cases h
      | vecz h hn => exact .inl ⟨rfl, hn⟩
      | @vec _ _ _ y ce' h' hn' =>
        rcases hr.blk _ _ q3 with ⟨z1, z2⟩ | ⟨y', ce2, ws, z1, z2, z3, z4, z5, z6, z7, z8, z9, z10⟩
        · rw [h'] at z1; cases z1
        · rw [h'] at z1; cases z1
          refine .inr ⟨y, ce', rfl, h', z2, by omega, .inr ⟨y, ce', ws, 0, by simp, trivial, z3, Nat.zero_le _, by omega, by simpa using hn', z5, z4, fun j hj => ?_⟩⟩
          simp only [List.length_map, List.length_range] at hj
          have hjl : j < ws.length := by omega
          have := z10 j 0 (.s (mkU r j)) (ws[j]'hjl) (by omega) (by rw [q6 j hj hr']; rfl) (by rw [Nat.mul_one, Nat.add_zero]; exact List.getElem?_eq_getElem hjl)
          rw [List.getElem?_eq_getElem hjl]
          have e : ws[j]'hjl = mkU r j := (PRel.fr (ρ := ρ) this).s_inv
          rw [e]
          simp [hj]
    have hblk : ∀ r y, r < m → Blk' (fun r => vs.getD r undef) r y → ∃ ce', ρ (ptr r) = some (some (y, ce')) ∧ ¬ F y := fun r y hr' ⟨n, ce', e0⟩ => by
      have e : vs.getD r undef = .slice (some ⟨y, 0, none⟩) n ce' := e0
      rcases key r hr' with ⟨k1, _⟩ | ⟨y', ce2, k1, k2, k3, _⟩
      · rw [k1] at e; cases e
      · rw [k1] at e; cases e; exact ⟨_, k2, k3⟩
    refine ⟨tb, e, fun r => vs.getD r undef, rfl, hn, ⟨_, _, h⟩, ⟨⟨_, rfl⟩, ⟨vs, _, _, r3, by omega, r4, fun j hj => hu j hj⟩, fun r hr' => ?_, fun r r' y a1 a2 b1 b2 => ?_, fun r hr' hb => ?_, fun r hr' => (h3 r hr').1, hm⟩, fun r y hr' hb => ?_, fun r hr' => ?_⟩
    · rcases key r hr' with ⟨k1, k2⟩ | ⟨y', ce2, k1, k2, k3, k4, k5⟩
      · exact .inl ⟨k1, by rw [k2]; rfl⟩
      · exact k5
    · obtain ⟨e1, g1, _⟩ := hblk r y a1 b1
      obtain ⟨e2, g2, _⟩ := hblk r' y a2 b2
      obtain ⟨_, _, mx, f, full, q3, _⟩ := h3 r a1
      obtain ⟨_, _, mx', f', full', q3', _⟩ := h3 r' a2
      exact h4 r r' a1 a2 (hr.inj _ _ _ _ _ _ _ q3 q3' (by simp) (by simp) g1 g2)
    · obtain ⟨e1, g1, _⟩ := hblk r tb hr' hb
      obtain ⟨_, _, mx, f, full, q3, _⟩ := h3 r hr'
      have := hr.inj _ _ _ _ _ _ _ q3 h1 (by simp) (by simp) g1 h
      rw [this, h1] at q3
      cases q3
    · obtain ⟨e1, g1, g2⟩ := hblk r y hr' hb
      exact ⟨⟨_, _, g1⟩, g2⟩
    · rcases key r hr' with k | ⟨y', ce2, k1, k2, k3, k4, k5⟩
      · exact .inl k
      · exact .inr ⟨y', ce2, k1, k4⟩
theorem p_ap2 {bk m : Nat} {len : Nat → Nat} {t : Bool} (hm : m ≤ 1000) (hI : TabW hp bk m len fun r _ => r < m) (h : PTri E false [] c [apA m len, .s (.bool t), .junk, .junk, apF m len, .junk, .junk, .junk, .junk, .junk, .junk, .junk, .junk, .junk, .junk, .junk, .junk, .junk, .junk, .junk, .junk] [] R) :
    PTri E false [] (.seq (.block 4 (.loop apB2)) c) [.vec 1 bk m, .s (.bool t), .junk, .junk, .s (.slice none 0 0), .s (.int .i64 0), .junk, .junk, .junk, .junk, .junk, .junk, .junk, .junk, .junk, .junk, .junk, .junk, .junk, .junk, .junk] hp R := by
  intro F ρ H ds Ta hr hT
  have hl := hT.len
  match Ta, hl with
  | [v0, v1, v2, v3, v4, v5, v6, v7, v8, v9, v10, v11, v12, v13, v14, v15, v16, v17, v18, v19, v20], _ =>
    have e1 : v1 = .bool t := (hT.at' 1 _ _ rfl rfl).s_inv
    have e4 : v4 = .slice none 0 0 := (hT.at' 4 _ _ rfl rfl).s_inv
    have e5 : v5 = .int .i64 0 := (hT.at' 5 _ _ rfl rfl).s_inv
    subst e1 e4 e5
    obtain ⟨tb, ce, u, rfl, hce, hown, hA, hB, hC⟩ := TabW.start hr hI hm (hT.at' 0 _ _ rfl rfl)
    obtain ⟨tf, htf⟩ : ∃ tf : Nat → Value, tf = fun i => [.slice (some ⟨tb, 0, none⟩) m ce, .bool t, v2, v3, .slice none 0 0, .int .i64 0, v6, v7, v8, v9, v10, v11, v12, v13, v14, v15, v16, v17, v18, v19, v20].getD i undef := ⟨_, rfl⟩
    have hA' : Ap0 H m tb u len (tf 0) := by rw [htf]; exact hA
    have hgo := ap2_run (E := E) (inR := false) (c := c) (ds := ds) (l0 := v6) (k0 := v7) (c0 := v14) (d0 := v15) (Q := fun r => ∃ F' ρ' T' hp', PExt F ρ ds H F' ρ' r.ds r.H ∧ (∀ b x, b ∈ ([] : List Nat) → ρ b = some x → ρ' b = some x) ∧ Rel F' ρ' hp' r.ds r.H ∧ PRels F' ρ' r.H T' r.T ∧ R r.e T' hp') hA' ?_
    · rw [htf] at hgo
      exact hgo
    · intro H2 ls w l k' c14 d hE
      have hoth : ∀ y, y < Vec.size H → ¬ Own ρ y → Vec.get H2 y = Vec.get H y := fun y hy hn => hE.oth y hy fun r hr' hb => hn (hB r y hr' hb).1
      have hF : ∀ y, F y → Vec.get H2 y = Vec.get H y := fun y hy => hE.oth y (hr.fsz y hy) fun r hr' hb => (hB r y hr' hb).2 hy
      have hownlt : ∀ y, Own ρ y → y < Vec.size H := fun y ⟨b, e, h⟩ => hr.own b y e h
      obtain ⟨F2, hF2⟩ : ∃ F2 : Nat → Prop, F2 = fun y => F y ∨ Own ρ y ∨ (Vec.size H ≤ y ∧ y < Vec.size H2) := ⟨_, rfl⟩
      have hsz := hE.size
      have hdfr : ∀ d, d ∈ ds → Vec.get H2 d = some .defr ∧ ¬ F2 d := fun d hd => by
        obtain ⟨q1, q2, q3⟩ := hr.dfr d hd
        have hdl := Vec.get_lt _ _ _ q1
        refine ⟨by rw [hoth d hdl q3]; exact q1, fun hf => ?_⟩
        rw [hF2] at hf
        rcases hf with hf | hf | hf
        · exact q2 hf
        · exact q3 hf
        · omega
      have hrel : Rel F2 none_ [] ds H2 := ⟨fun y hy => by
          rw [hF2] at hy
          rcases hy with hy | hy | hy
          · have := hr.fsz y hy; omega
          · have := hownlt y hy; omega
          · exact hy.2, (fun b B h => by simp at h), (fun b b' B B' a e e' h => by simp at h), (fun _ _ => rfl), (fun b a e h => nomatch h), (fun d hd => ⟨(hdfr d hd).1, (hdfr d hd).2, fun ⟨b, e, h⟩ => nomatch h⟩), hr.nd⟩
      have hext : PExt F ρ ds H F2 none_ ds H2 := ⟨hsz, fun y hy => by rw [hF2]; exact .inl hy, hF, fun y hy => by
          rw [hF2] at hy
          exact hy.imp id (Or.imp id And.left), fun y hy hn _ => hoth y hy hn, (fun y ⟨b, e, h⟩ => nomatch h), fun d hd => .inl hd⟩
      have hrow : ∀ r, r < m → FRel F2 H2 (apX len r) (u r) := fun r hr' => by
        unfold apX
        rcases hC r hr' with ⟨k1, k2⟩ | ⟨y, ce', k1, k2⟩
        · rw [k1, k2]; exact .nil (.inl rfl)
        · rw [k1]
          refine frz_rd (P := fun j => .s (mkU r j)) (by rw [hF2]; exact .inr (.inl (hB r y hr' ⟨_, _, k1⟩).1)) (hE.old r hr' y ⟨_, _, k1⟩) k2 fun j hj => .s _
      have htab : FRel F2 H2 (apA m len) (.slice (some ⟨tb, 0, none⟩) m ce) := by
        refine frz_rd (P := fun i => apX len i) (g := u) (by rw [hF2]; exact .inr (.inl hown)) (hA.rd.same (hE.oth tb hA.rd.lt fun r hr' => hA.tdis r hr')) hce hrow
      have hnew : ∀ r, r < m → ∃ lv, ls[r]? = some lv ∧ FRel F2 H2 (apW len r) lv := fun r hr' => by
        have hll : r < ls.length := by rw [hE.len]; exact hr'
        refine ⟨_, List.getElem?_eq_getElem hll, ?_⟩
        obtain ⟨x, ce', g1, g2, g3, g4⟩ := hE.new r _ (List.getElem?_eq_getElem hll)
        rw [g1]
        refine frz_rd (P := fun j => .s (mk2 len r j)) ?_ g3 g2 fun j hj => .s _
        rw [hF2]
        rcases g4 with g4 | g4
        · exact .inr (.inl (hB r x hr' g4).1)
        · exact .inr (.inr ⟨g4, g3.lt⟩)
      have hmore : FRel F2 H2 (apF m len) w := by
        rcases hE.more with ⟨k1, k2⟩ | ⟨x, ce', vs, lo, k1, k2, k3, k4, k5, k6, k7, k8, k9⟩
        · have hm0 : m = 0 := by rw [← hE.len, k2]; rfl
          rw [k1]
          unfold apF
          rw [hm0]
          exact .nil (.inl rfl)
        · rw [hE.len] at k1 k6
          rw [k1]
          refine frz_rd (P := fun i => apW len i) (g := fun r => ls.getD r undef) (by rw [hF2]; exact .inr (.inr ⟨k2.1, Vec.get_lt _ _ _ k3⟩)) ⟨vs, _, _, k3, by omega, k8, fun j hj => ?_⟩ k6 fun j hj => ?_
          · rw [k9 j (by rw [hE.len]; exact hj)]
            show ls[j]? = some (ls.getD j undef)
            rw [List.getD_eq_getElem?_getD]
            obtain ⟨lv, z1, _⟩ := hnew j hj
            rw [z1]; rfl
          · obtain ⟨lv, z1, z2⟩ := hnew j hj
            show FRel F2 H2 _ (ls.getD j undef)
            rw [List.getD_eq_getElem?_getD, z1]
            exact z2
      refine (h F2 none_ H2 ds _ hrel ?_).mono fun r hg => TPost.trans hext (fun b x hb => nomatch hb) hg
      subst htf
      exact .cons (.fr htab) (.cons (.fr (.s _)) (.cons (.fr (.junk _)) (.cons (.fr (.junk _)) (.cons (.fr hmore) (.cons (.fr (.junk _)) (.cons (.fr (.junk _)) (.cons (.fr (.junk _)) (.cons (.fr (.junk _)) (.cons (.fr (.junk _)) (.cons (.fr (.junk _)) (.cons (.fr (.junk _)) (.cons (.fr (.junk _)) (.cons (.fr (.junk _)) (.cons (.fr (.junk _)) (.cons (.fr (.junk _)) (.cons (.fr (.junk _)) (.cons (.fr (.junk _)) (.cons (.fr (.junk _)) (.cons (.fr (.junk _)) (.cons (.fr (.junk _)) .nil))))))))))))))))))))
end
end Go.Proofs.Ytollibkfagjnaaa.AM

