/- Rules for contracts: what single operations come to; heaps that keep what was there; rows of cells. -/
import Derived.Test.YtdbehmepikhghaaAM25
set_option linter.unusedVariables false
set_option linter.unusedSimpArgs false
namespace Go.Proofs.Ytdbehmepikhghaa.AM
section
variable {V : Type → Type} [Vec V] {E : Env V} {T : AT} {L : List Value} {H H' H'' : AH V} {Q : Value → AH V → Prop}
theorem get_anew (H : AH V) (cs : List Value) (j : Nat) : Vec.get (anew H cs) j = if j = Vec.size H then some (.arr cs true 0) else Vec.get H j := Vec.get_push ..
theorem get_anew_lt {cs : List Value} {j : Nat} (h : j < Vec.size H) : Vec.get (anew H cs) j = Vec.get H j := by rw [get_anew, if_neg (by omega)]
theorem get_anew_same (H : AH V) (cs : List Value) : Vec.get (anew H cs) (Vec.size H) = some (.arr cs true 0) := by rw [get_anew, if_pos rfl]
theorem get_anew_eq {cs : List Value} {j : Nat} (h : j = Vec.size H) : Vec.get (anew H cs) j = some (.arr cs true 0) := by rw [get_anew, if_pos h]
theorem get_set_same {b : Nat} {B : Blk} (h : b < Vec.size H) : Vec.get (Vec.set H b B) b = some B := by rw [Vec.get_set, if_pos ⟨rfl, h⟩]
theorem get_set_ne {b j : Nat} {B : Blk} (h : b ≠ j) : Vec.get (Vec.set H b B) j = Vec.get H j := by rw [Vec.get_set, if_neg (fun x => h x.1)]
/-- What was there is there as it was. -/
structure Keeps (H H' : AH V) : Prop where
  size : Vec.size H ≤ Vec.size H'
  get : ∀ j, j < Vec.size H → Vec.get H' j = Vec.get H j
theorem Keeps.refl (H : AH V) : Keeps H H := ⟨Nat.le_refl _, fun _ _ => rfl⟩
theorem Keeps.trans (a : Keeps H H') (b : Keeps H' H'') : Keeps H H'' := ⟨Nat.le_trans a.size b.size, fun j h => (b.get j (Nat.lt_of_lt_of_le h a.size)).trans (a.get j h)⟩
theorem Keeps.anew (a : Keeps H H') (cs : List Value) : Keeps H (anew H' cs) := ⟨by rw [size_anew]; exact Nat.le_succ_of_le a.size, fun j h => by rw [get_anew_lt (Nat.lt_of_lt_of_le h a.size)]; exact a.get j h⟩
theorem Keeps.set (a : Keeps H H') {b : Nat} (B : Blk) (hb : Vec.size H ≤ b) : Keeps H (Vec.set H' b B) := ⟨by rw [Vec.size_set]; exact a.size, fun j h => by rw [get_set_ne (by omega)]; exact a.get j h⟩
theorem Keeps.some (a : Keeps H H') {b : Nat} {B : Blk} (h : Vec.get H b = some B) : Vec.get H' b = some B := by rw [a.get b (Vec.get_lt _ _ _ h)]; exact h
/-! ### Single operations -/
theorem does_val {op : AOp Src} {v : Value} (h : aexec E.P (fun _ _ _ => none) op (sev T L) H = some (v, H)) (hq : Q v H) : ADoes E T L op H Q := does_op v H h hq
theorem does_load {a : Src} {b off : Nat} {cs : List Value} {w : Bool} {lo : Nat} {n : Option Nat} {v : Value} (ha : sev T L a = some (.pointer (some ⟨b, off, none⟩))) (hg : Vec.get H b = some (.arr cs w lo)) (hc : acells cs n off = some v) (hq : Q v H) : ADoes E T L (.load n a) H Q :=
  does_op v H (by simp only [aexec, x1, ha, aload, arow, hg, hc, withH]) hq
theorem add_none (b o n : Nat) : (⟨b, o, none⟩ : Addr).add n = ⟨b, o + n, none⟩ := by
  unfold Addr.add
  split
  · next h => subst h; rfl
  · rfl
theorem does_iaddr {x i : Src} {b o : Nat} {n ce size : Nat} {k : IntKind} {j : Nat} (hx : sev T L x = some (.slice (some ⟨b, o, none⟩) n ce)) (hi : sev T L i = some (.int k (j : Int))) (hj : j < n) (hq : Q (.pointer (some ⟨b, o + j * size, none⟩)) H) : ADoes E T L (.iaddr size x i) H Q :=
  does_op _ H (by
    simp only [aexec, x2, hx, hi, aindex, withH]
    rw [if_pos ⟨Int.natCast_nonneg j, by exact_mod_cast hj⟩]
    simp [add_none]) hq
theorem does_store {a x : Src} {b off n lo : Nat} {cs : List Value} {v : Value} {vs : List Value} (ha : sev T L a = some (.pointer (some ⟨b, off, none⟩))) (hx : sev T L x = some v) (hv : v.cells.toList = vs) (hn : vs.length = n) (ho : vs.all oneCell = true) (hg : Vec.get H b = some (.arr cs true lo)) (h1 : lo ≤ off) (h2 : off + vs.length ≤ cs.length)
    (hq : Q undef (Vec.set H b (.arr (splice cs off vs) true lo))) : ADoes E T L (.store n a x) H Q :=
  does_op undef _ (by
    simp only [aexec, x2, ha, hx, fStore, astore, hv, hn, if_true, aput', hg]
    rw [if_pos ⟨h1, hn ▸ h2, ho⟩]) hq
/-- Into a block of unknown capacity that is full, or into none. -/
theorem does_append_nil {s x : Src} {share : Bool} {size bytes k : Nat} {vx : Value} {new : List Value} (hs : sev T L s = some (.slice none 0 0)) (hx : sev T L x = some vx) (hk : alen vx = some k) (hk0 : 0 < k) (hsrc : asrc H size k vx = some new) (ho : new.all oneCell = true) (hr : k * bytes ≤ room)
    (hq : Q (.slice (some ⟨Vec.size H, 0, none⟩) k (2 * k)) (anew H new)) : ADoes E T L (.append share size bytes s x) H Q :=
  does_op _ _ (by
    simp only [aexec, x2, hs, hx, aappend, hk, hsrc]
    rw [if_neg (by simp only [ho, Nat.zero_add]; simp; exact hr)]
    simp only [and_self, if_true]
    rw [if_neg (by omega)]) hq
theorem does_append_none {s x : Src} {share : Bool} {size bytes : Nat} {vx : Value} (hs : sev T L s = some (.slice none 0 0)) (hx : sev T L x = some vx) (hk : alen vx = some 0) (hsrc : asrc H size 0 vx = some [])
    (hq : Q (.slice none 0 0) H) : ADoes E T L (.append share size bytes s x) H Q :=
  does_op _ _ (by
    simp only [aexec, x2, hs, hx, aappend, hk, hsrc]
    rw [if_neg (by simp)]
    simp only [and_self, if_true]) hq
theorem does_append_grow {s x : Src} {size bytes n k b : Nat} {cs : List Value} {vx : Value} {new : List Value} (hs : sev T L s = some (.slice (some ⟨b, 0, none⟩) n (2 * n))) (hn : 0 < n) (hx : sev T L x = some vx) (hk : alen vx = some k) (hk0 : 0 < k) (hsrc : asrc H size k vx = some new) (ho : new.all oneCell = true) (hr : (n + k) * bytes ≤ room)
    (hg : Vec.get H b = some (.arr cs true 0)) (hc : n * size = cs.length)
    (hq : Q (.slice (some ⟨Vec.size H, 0, none⟩) (n + k) (2 * (n + k))) (anew (Vec.set H b .dead) (cs ++ new))) : ADoes E T L (.append false size bytes s x) H Q :=
  does_op _ _ (by
    simp only [aexec, x2, hs, hx, aappend, hk, hsrc]
    have e0 : ¬ (new.all oneCell = false ∨ room < (n + k) * bytes) := by rw [ho]; simp; exact hr
    have e1 : ¬ n + k ≤ 2 * n / 2 := by omega
    have e2 : ¬ k = 0 := by omega
    have e3 : 0 + n * size ≤ cs.length := by omega
    have e4 : ¬ 2 * n % 2 = 1 := by omega
    have e5 : ¬ (2 * n = 0 ∨ True = False ∨ 0 ≠ 0 ∨ n ≠ 2 * n / 2 ∨ n * size ≠ cs.length) := by
      rintro (h | h | h | h | h)
      · omega
      · simp at h
      · exact h rfl
      · omega
      · exact h hc
    rw [if_neg e0, if_neg e1, if_neg e2]
    simp only [hg]
    rw [if_pos e3, if_neg e4, if_neg (by simpa using e5)]
    simp [hc]) hq
/-! ### Rows of cells -/
/-- No element, and no row of its own. -/
def nilish (v : Value) : Prop := v = .slice none 0 0 ∨ ∃ b o s, v = .slice (some ⟨b, o, some s⟩) 0 0
theorem nilish.eq {v : Value} (h : nilish v) : ∃ a, v = .slice a 0 0 := by
  rcases h with rfl | ⟨b, o, s, rfl⟩
  · exact ⟨_, rfl⟩
  · exact ⟨_, rfl⟩
theorem nilish.src {v : Value} (h : nilish v) (size : Nat) : asrc H size 0 v = some [] := by
  rcases h with rfl | ⟨b, o, s, rfl⟩ <;> rfl
/-- A slice (elements of one cell) and its cells. -/
def RowOf (H : AH V) (v : Value) (cs : List Value) : Prop :=
  (nilish v ∧ cs = []) ∨ ∃ b off ce blk w lo, v = .slice (some ⟨b, off, none⟩) cs.length ce ∧ Vec.get H b = some (.arr blk w lo) ∧ off + cs.length ≤ blk.length ∧ (blk.drop off).take cs.length = cs
theorem RowOf.ext {v : Value} {cs : List Value} (h : RowOf H v cs) (he : Keeps H H') : RowOf H' v cs := by
  rcases h with h | ⟨b, off, ce, blk, w, lo, h1, h2, h3⟩
  · exact .inl h
  · exact .inr ⟨b, off, ce, blk, w, lo, h1, he.some h2, h3⟩
theorem RowOf.len {v : Value} {cs : List Value} (h : RowOf H v cs) : ∃ a ce, v = .slice a cs.length ce := by
  rcases h with ⟨h, rfl⟩ | ⟨b, off, ce, blk, w, lo, rfl, _⟩
  · obtain ⟨a, rfl⟩ := h.eq; exact ⟨_, _, rfl⟩
  · exact ⟨_, _, rfl⟩
theorem RowOf.at {v : Value} {cs : List Value} (h : RowOf H v cs) {i : Nat} (hi : i < cs.length) : ∃ b off ce blk w lo, v = .slice (some ⟨b, off, none⟩) cs.length ce ∧ Vec.get H b = some (.arr blk w lo) ∧ blk[off + i * 1]? = some cs[i] := by
  rcases h with ⟨_, rfl⟩ | ⟨b, off, ce, blk, w, lo, rfl, h2, h3, h4⟩
  · simp at hi
  · refine ⟨b, off, ce, blk, w, lo, rfl, h2, ?_⟩
    have : cs[i]? = some cs[i] := List.getElem?_eq_getElem hi
    rw [← this]
    conv => rhs; rw [← h4]
    rw [List.getElem?_take, if_pos hi, List.getElem?_drop, Nat.mul_one]
theorem RowOf.src {v : Value} {cs : List Value} (h : RowOf H v cs) : asrc H 1 cs.length v = some cs := by
  rcases h with ⟨h, rfl⟩ | ⟨b, off, ce, blk, w, lo, rfl, h2, h3, h4⟩
  · exact h.src 1
  · simp only [asrc, arow, h2, Nat.mul_one]
    rw [if_pos h3, h4]
theorem RowOf.alen {v : Value} {cs : List Value} (h : RowOf H v cs) : alen v = some cs.length := by
  obtain ⟨a, ce, rfl⟩ := h.len; rfl
/-! ### Loops -/
theorem runs_loop_measure {inR : Bool} {b : ACode} {R : Res V → Prop} (I : Nat → AT → AH V → List Nat → Prop)
    (h : ∀ k T H ds, I k T H ds → ARuns E (.code inR b T H ds) fun r => match r.e with | .norm => ∃ j, j < k ∧ I j r.T r.H r.ds | _ => R r) :
    ∀ k T H ds, I k T H ds → ARuns E (.code inR (.loop b) T H ds) R := by
  intro k
  induction k using Nat.strongRecOn with
  | ind k ih =>
    intro T H ds hi
    refine runs_loop ((h k T H ds hi).mono ?_)
    rintro ⟨e, T1, H1, ds1, v⟩ hr
    cases e
    · obtain ⟨j, hj, hij⟩ := hr
      exact ih j hj _ _ _ hij
    all_goals exact hr
theorem aw64 {n : Int} (h1 : -9223372036854775808 ≤ n) (h2 : n ≤ 9223372036854775807) : aw .i64 n = n := by
  simp only [aw]; omega
theorem does_inc {x y : Src} {i : Nat} (hx : sev T L x = some (.int .i64 (i : Int))) (hy : sev T L y = some (.int .i64 1)) (hi : i < 9223372036854775807) (hq : Q (.int .i64 ((i + 1 : Nat) : Int)) H) : ADoes E T L (.bin .add x y) H Q :=
  does_op _ H (by
    simp only [aexec, x2, hx, hy, abin, abinK, abinI, someInt, withH, if_true]
    rw [aw64 (by omega) (by omega)]
    simp) hq
/-- A slice cut short, of a row of unknown capacity. -/
theorem does_cut {x y : Src} {b o n c k : Nat} {size : Nat} {kd : IntKind} (hx : sev T L x = some (.slice (some ⟨b, o, none⟩) n (2 * c))) (hy : sev T L y = some (.int kd (k : Int))) (hn : n ≤ c) (hk : k ≤ c) (hc : 0 < c) (hq : Q (.slice (some ⟨b, o, none⟩) k (2 * c)) H) : ADoes E T L (.slice size x none (some y) none) H Q :=
  does_op _ H (by
    have e1 : ¬ (2 * c / 2 < n) := by omega
    have e2 : 2 * c / 2 = c := by omega
    have e3 : ¬ c = 0 := by omega
    simp only [aexec, xCut, xo, hx, hy, asliceV, asliceS, aoptb, e2, abound]
    simp [hk, acut, e3, Nat.not_lt.2 hn, withH, add_none, Addr.add]) hq
/-- What was appended one by one: none yet, or a row of its own, of unknown capacity, that lies at 'base' or behind. -/
def Acc (H : AH V) (base : Nat) (v : Value) (cs : List Value) : Prop :=
  (v = .slice none 0 0 ∧ cs = []) ∨ ∃ b, base ≤ b ∧ v = .slice (some ⟨b, 0, none⟩) cs.length (2 * cs.length) ∧ 0 < cs.length ∧ Vec.get H b = some (.arr cs true 0)
theorem Acc.row {base : Nat} {v : Value} {cs : List Value} (h : Acc H base v cs) : RowOf H v cs := by
  rcases h with ⟨rfl, h⟩ | ⟨b, h1, rfl, h2, h3⟩
  · exact .inl ⟨.inl rfl, h⟩
  · exact .inr ⟨b, 0, _, _, _, _, rfl, h3, by omega, by simp⟩
theorem Acc.keep {base : Nat} {v : Value} {cs : List Value} (h : Acc H base v cs) (hk : ∀ j, base ≤ j → j < Vec.size H → Vec.get H' j = Vec.get H j) : Acc H' base v cs := by
  rcases h with h | ⟨b, h1, rfl, h2, h3⟩
  · exact .inl h
  · exact .inr ⟨b, h1, rfl, h2, by rw [hk b h1 (Vec.get_lt _ _ _ h3)]; exact h3⟩
theorem Acc.flat {base : Nat} {v : Value} {cs : List Value} (h : Acc H base v cs) : oneCell v = true ∧ veq v v = true := by
  rcases h with ⟨rfl, _⟩ | ⟨b, h1, rfl, h2, h3⟩
  · exact ⟨rfl, rfl⟩
  · exact ⟨rfl, by simp [veq, veq1]⟩
theorem does_append_acc {s x : Src} {bytes base k : Nat} {v vx : Value} {cs new : List Value} (hs : sev T L s = some v) (ha : Acc H base v cs) (hx : sev T L x = some vx) (hk : alen vx = some k) (hk0 : 0 < k) (hsrc : asrc H 1 k vx = some new) (hnl : new.length = k) (ho : new.all oneCell = true) (hr : (cs.length + k) * bytes ≤ room) (hb : base ≤ Vec.size H)
    (hq : ∀ v' H', Acc H' base v' (cs ++ new) → (∀ j, j < base → Vec.get H' j = Vec.get H j) → Vec.size H ≤ Vec.size H' → Q v' H') : ADoes E T L (.append false 1 bytes s x) H Q := by
  rcases ha with ⟨rfl, rfl⟩ | ⟨b, h1, rfl, h2, h3⟩
  · refine does_append_nil hs hx hk hk0 hsrc ho (by simpa using hr) (hq _ _ (.inr ⟨Vec.size H, hb, by simp [hnl], by simp; omega, by rw [get_anew_same]; simp⟩) (fun j hj => get_anew_lt (by omega)) (by rw [size_anew]; omega))
  · have hbl := Vec.get_lt _ _ _ h3
    refine does_append_grow hs h2 hx hk hk0 hsrc ho hr h3 (by omega) (hq _ _ (.inr ⟨Vec.size H, hb, by rw [List.length_append, hnl], by rw [List.length_append]; omega, ?_⟩) (fun j hj => ?_) ?_)
    · have := get_anew_same (Vec.set H b .dead) (cs ++ new)
      rwa [Vec.size_set] at this
    · rw [get_anew_lt (by rw [Vec.size_set]; omega), get_set_ne (by omega)]
    · rw [size_anew, Vec.size_set]; omega
theorem veq_slice (a : Option Addr) (n c : Nat) : veq (.slice a n c) (.slice a n c) = true := by simp [veq, veq1]
theorem loadOk_of {sn : List (AH V)} {lo : Nat} {n : Option Nat} {a : Src} {p v : Value} (ha : sev T L a = some p) (hv : veq v v = true) (h : ∀ K ∈ (sn.drop 1).take (sn.length - 1 - lo), aload K n p = some v) : loadOk T L sn lo (.load n a) v = true := by
  simp only [loadOk, ha, stable, List.all_eq_true]
  intro K hK
  rw [h K hK]
  exact hv
theorem aload_of {K : AH V} {b off : Nat} {cs : List Value} {w : Bool} {lo : Nat} {n : Option Nat} {v : Value} (hg : Vec.get K b = some (.arr cs w lo)) (hc : acells cs n off = some v) : aload K n (.pointer (some ⟨b, off, none⟩)) = some v := by
  simp only [aload, arow, hg, hc]
theorem RowOf.slice {v : Value} {cs : List Value} (h : RowOf H v cs) : veq v v = true ∧ oneCell v = true := by
  obtain ⟨a, ce, rfl⟩ := h.len
  exact ⟨veq_slice _ _ _, rfl⟩
end
end Go.Proofs.Ytdbehmepikhghaa.AM
