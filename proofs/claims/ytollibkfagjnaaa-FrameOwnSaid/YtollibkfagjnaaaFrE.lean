/- The document's Heights. The document's Heights, walked. Rules for queues in a walk. frame.Heights, walked. frame.Effect and both Entries. PUT TOGETHER by merge.py. -/
import Derived.Test.YtollibkfagjnaaaFrH
set_option linter.unusedVariables false
set_option linter.unusedSimpArgs false
set_option maxRecDepth 10000
namespace Go.Proofs.Ytollibkfagjnaaa.Shape.Kit
open Go.Proofs.Ytollibkfagjnaaa.AM
def hs0 (n : Nat) : List Int := 0 :: List.replicate (n - 1) (-1)
def lk0 (n : Nat) : List Bool := List.replicate n false
/-- What Heights answers. -/
inductive HRes (m : Md) (f : Int) : List Int → Int → Int → Int → Prop
  | shape {e g a : Int} (hc : Shape.IsCheck (toM m) e g a) (h : e ≠ 0) : HRes m f [] e g a
  | arg (hk : OkM m) (h : ¬ (0 ≤ f ∧ f < m.fns.length)) : HRes m f [] 1 f 0
  | ok {hs : List Int} {i : Nat} (hk : OkM m) (hf : f = i) (hi : i < m.fns.length) (h : HRun m i (hs0 (fnAt m i).code.length) (lk0 (fnAt m i).code.length) (.ok hs)) : HRes m f hs 0 0 0
  | bad {e : Int} {i a : Nat} (hk : OkM m) (hf : f = i) (hi : i < m.fns.length) (h : HRun m i (hs0 (fnAt m i).code.length) (lk0 (fnAt m i).code.length) (.bad e a)) : HRes m f [] e f a
theorem ok_not {m : Md} {e g a : Int} (hk : OkM m) (hc : Shape.IsCheck (toM m) e g a) (h : e ≠ 0) : False := by
  obtain ⟨f', a', hc'⟩ := hk
  exact h (Shape.isCheck_one hc hc').1
theorem HRes.one {m : Md} {f : Int} {l l' : List Int} {e g a e' g' a' : Int} (h : HRes m f l e g a) (h' : HRes m f l' e' g' a') : l = l' ∧ e = e' ∧ g = g' ∧ a = a' := by
  cases h with
  | shape hc h =>
    cases h' with
    | shape hc' h' => obtain ⟨rfl, rfl, rfl⟩ := Shape.isCheck_one hc hc'; exact ⟨rfl, rfl, rfl, rfl⟩
    | arg hk _ => exact (ok_not hk hc h).elim
    | ok hk _ _ _ => exact (ok_not hk hc h).elim
    | bad hk _ _ _ => exact (ok_not hk hc h).elim
  | arg hk h =>
    cases h' with
    | shape hc' h' => exact (ok_not hk hc' h').elim
    | arg _ _ => exact ⟨rfl, rfl, rfl, rfl⟩
    | ok _ hf hi _ => exact absurd (by omega) h
    | bad _ hf hi _ => exact absurd (by omega) h
  | ok hk hf hi h =>
    cases h' with
    | shape hc' h' => exact (ok_not hk hc' h').elim
    | arg _ h => exact absurd (by omega) h
    | ok _ hf' _ h' =>
      obtain rfl := Int.ofNat.inj (hf.symm.trans hf')
      cases h.one h'
      exact ⟨rfl, rfl, rfl, rfl⟩
    | bad _ hf' _ h' =>
      obtain rfl := Int.ofNat.inj (hf.symm.trans hf')
      cases h.one h'
  | bad hk hf hi h =>
    cases h' with
    | shape hc' h' => exact (ok_not hk hc' h').elim
    | arg _ h => exact absurd (by omega) h
    | ok _ hf' _ h' =>
      obtain rfl := Int.ofNat.inj (hf.symm.trans hf')
      cases h.one h'
    | bad _ hf' _ h' =>
      obtain rfl := Int.ofNat.inj (hf.symm.trans hf')
      cases h.one h'
      exact ⟨rfl, rfl, rfl, rfl⟩
theorem hinv0 {n : Nat} (hn : 0 < n) : HInv n (hs0 n) (lk0 n) := by
  have hg : ∀ b, (hs0 n).getD b 0 = 0 ∨ (hs0 n).getD b 0 = -1 := fun b => by
    cases b with
    | zero => exact .inl rfl
    | succ b =>
      show (List.replicate (n - 1) (-1 : Int)).getD b 0 = 0 ∨ _
      simp only [List.getD_eq_getElem?_getD, List.getElem?_replicate, hs0, List.getElem?_cons_succ]
      split
      · exact .inr rfl
      · exact .inl rfl
  refine ⟨by simp [hs0]; omega, by simp [lk0], fun b => ?_, fun b => ?_, fun b hb => ?_⟩
  · rcases hg b with h | h <;> omega
  · rcases hg b with h | h <;> omega
  · simp only [lk0, List.getD_eq_getElem?_getD, List.getElem?_replicate] at hb
    split at hb <;> simp at hb
theorem nx_nat {m : Md} {i a : Nat} (ha : a < (fnAt m i).code.length) : Gr.nextI (fnAt m i).code ((a : Nat) : Int) = natH (nxH m i a) ∧ ∀ b, b ∈ nxH m i a → b ≤ (fnAt m i).code.length := by
  have key : ∀ c, c ∈ Gr.nextL (fnAt m i).code a → 0 ≤ c ∧ c ≤ (fnAt m i).code.length := fun c hc => by
    unfold Gr.nextL at hc
    dsimp only at hc
    repeat' (split at hc)
    all_goals simp only [List.mem_cons, List.not_mem_nil, or_false] at hc
    all_goals omega
  refine ⟨?_, fun b hb => ?_⟩
  · rw [Gr.nextI_nat ha]
    unfold natH nxH
    rw [List.map_map]
    refine (List.map_id' _).symm.trans (List.map_congr_left fun c hc => ?_)
    have := key c hc
    show c = ((c.toNat : Nat) : Int)
    omega
  · obtain ⟨c, hc, rfl⟩ := List.mem_map.1 hb
    have := key c hc
    omega
theorem eff_small {m : Md} (hk : OkM m) {i a : Nat} (hi : i < m.fns.length) (ha : a < (fnAt m i).code.length) : 0 ≤ (effH m i a).1 ∧ (effH m i a).1 ≤ 8 ∧ 0 ≤ (effH m i a).2 ∧ (effH m i a).2 ≤ 4 :=
  effS_small hk hi _ _ (op_ok hk hi ha rfl).2
end Go.Proofs.Ytollibkfagjnaaa.Shape.Kit

namespace Go.Proofs.Ytollibkfagjnaaa.Shape.Kit
open Go.Proofs.Ytollibkfagjnaaa.AM
def toG (f : Fn) : Gr.Fn := ⟨f.lvl, f.ps, f.rs, f.loc, f.stk, f.code⟩
def hR (hs : List Int) (lk : List Bool) : PH := [.cel [i64 0, i64 0, i64 0], .vec 1 hs.length (rowI .i64 hs) true, .vec 1 lk.length (rowB lk) true]
end Go.Proofs.Ytollibkfagjnaaa.Shape.Kit

namespace Go.Proofs.Ytollibkfagjnaaa.AM
section
variable {V : Type → Type} [Vec V] {E : Env V} {F F' F0 : Nat → Prop} {ρ ρ' ρ0 : PR} {H H' H0 : AH V} {hp hp' hp0 : PH} {ds ds' : List Nat} {T L : List PV} {Ta La : List Value} {inR : Bool} {p : List Nat} {a b c : ACode} {R : AE → List PV → PH → Prop} {st : PS} {dr : Bool} {ops : List AOper} {l0 : Nat} {Q : List PV → PH → Prop}
theorem prg_qlen {x : Option (List Int)} {l : List Int} {b lo cnt : Nat} {s : Src} {O : List Bool} {md : List Nat} (hs : psev T L s = some (qv x l b)) (hk : PRg E p false T ops l0 ⟨.s (.int .i64 ((l.length : Nat) : Int)) :: L, false :: O, hp, md, cnt⟩ Q) : PRg E p false T (⟨.len s, none, lo⟩ :: ops) l0 ⟨L, O, hp, md, cnt⟩ Q := by
  refine prg_v (v := .s (.int .i64 ((l.length : Nat) : Int))) (q := True) ?_ hk trivial rfl rfl rfl
  simp only [pval, hs]
  cases x <;> rfl
theorem prg_qhead {x : Option (List Int)} {l : List Int} {c : Int} {b lo lo' cnt : Nat} {s iS : Src} {O : List Bool} {md : List Nat} (hs : psev T L s = some (qv x (c :: l) b)) (hi : psev T L iS = some (.s (.int .i64 0))) (hb : hp[b]? = some (qB x (c :: l))) (hk : ∀ P, PRg E p false T ops l0 ⟨.s (.int .i64 c) :: P :: L, false :: false :: O, hp, md, cnt⟩ Q) : PRg E p false T (⟨.iaddr 1 s iS, none, lo⟩ :: ⟨.load none (.loc 0), none, lo'⟩ :: ops) l0 ⟨L, O, hp, md, cnt⟩ Q := by
  cases x with
  | none =>
    refine prg_v (v := .eptr 1 b 0 0) (q := 0 < (c :: l).length) ?_ ?_ (Nat.zero_lt_succ _) rfl rfl rfl
    · simp only [pval, hs, hi, piaddr, pnat]; rfl
    refine prg_v (v := .s (.int .i64 c)) (q := 0 < (c :: l).length ∧ 1 = 1) ?_ (hk _) ⟨Nat.zero_lt_succ _, rfl⟩ rfl rfl rfl
    show pload hp none (some (.eptr 1 b 0 0)) = _
    simp only [pload, hb, qB]
    rfl
  | some pre =>
    refine prg_v (v := .eptr 1 b (pre.length + 0) 0) (q := 0 < (c :: l).length) ?_ ?_ (Nat.zero_lt_succ _) rfl rfl rfl
    · simp only [pval, hs, hi, piaddr, pnat]; rfl
    refine prg_v (v := .s (.int .i64 c)) (q := pre.length + 0 < (pre ++ c :: l).length ∧ 1 = 1) ?_ (hk _) ⟨by simp, rfl⟩ rfl rfl rfl
    show pload hp none (some (.eptr 1 b (pre.length + 0) 0)) = _
    have : rowI .i64 (pre ++ c :: l) (pre.length + 0) = [.s (.int .i64 c)] := by simp [rowI, List.getD_eq_getElem?_getD]
    simp only [pload, hb, qB, this]
    rfl
theorem bs_q {σ : Sig} {fz : List Nat} {x : Option (List Int)} {l : List Int} {b i : Nat} (h : σ[b]? = some (some i) := by rfl) (hf : i ∉ fz := by decide) (hb : hp[i]? = some (qB x l) := by rfl) : BSub σ fz hp b (qB x l) := by
  cases x with
  | none => exact bs_same h hf hb
  | some pre => exact bs_same h hf hb
theorem bs_qcut {σ : Sig} {fz : List Nat} {x : Option (List Int)} {l : List Int} {c : Int} {b i : Nat} (hx : x = none → l = []) (h : σ[b]? = some (some i) := by rfl) (hf : i ∉ fz := by decide) (hb : hp[i]? = some (qB x (c :: l)) := by rfl) : BSub σ fz hp b (qB (x.map (· ++ [c])) l) := by
  cases x with
  | none =>
    obtain rfl := hx rfl
    exact .vec h hf hb (Nat.zero_le _) (fun h => nomatch h) fun i hi => absurd hi (Nat.not_lt_zero _)
  | some pre =>
    have e : pre ++ c :: l = (pre ++ [c]) ++ l := by simp
    refine .vec h hf hb (Nat.le_of_eq (by rw [e])) (fun _ => ⟨rfl, by rw [e]⟩) fun i hi => by rw [e]
/-- A call that reads a queue and leaves it. -/
theorem prg_qcall {fs : Src} {args : List Src} {gd : Option (Src × Bool)} {lo y : Nat} {g : FuncId} {first cap vs args' : List PV} {x : Option (List Int)} {l : List Int} {Rv : PV → Prop} (hx : st.hp[y]? = some (qB x l)) (hc : PCall E [0] g args' [qB x l] (fun v hp => Rv v ∧ hp = [qB x l])) (hv : VSubs [some y] [] st.hp (first ++ vs ++ cap) args')
    (hk : ∀ v md' cnt', Rv v → rok2 v = true ∧ (∀ κ, ren2 κ v = v) ∧ PRg E p dr T ops l0 ⟨v :: st.L, false :: st.O, st.hp, md', cnt'⟩ Q)
    (h1 : psev T st.L fs = some (.fn g first cap) := by rfl) (h2 : pevs (psev T st.L) args = some vs := by rfl) (hg : pwanted T st.L gd = some true := by rfl) : PRg E p dr T (⟨.call fs args, gd, lo⟩ :: ops) l0 st Q := by
  have hrB : ∀ κ, renB κ (qB x l) = qB x l := fun κ => by cases x <;> rfl
  refine prg_scall (σ := [y]) (fz := []) (hpc := [qB x l]) h1 h2 hg ⟨rfl, rfl, rfl, hv, .cons (bs_q rfl (by simp) hx) .nil⟩ ?_ hc ?_
  · simp only [liveIn, List.all_cons, List.all_nil, Bool.and_true, hx]
    cases x <;> rfl
  · rintro v hpc' ⟨hRv, rfl⟩
    obtain ⟨k1, k2, k3⟩ := hk v ([y] ++ [] ++ st.md) (st.cnt + 1) hRv
    refine ⟨k1, by cases x <;> rfl, Nat.le_refl _, ?_⟩
    have : emb [y] [] st.hp [qB x l] = st.hp := by
      unfold emb
      refine putL_one (hrB _) fun i C h1 h2 => ?_
      have : i = y := by omega
      subst this
      rw [hx] at h2; cases h2; rfl
    rw [this, k2]
    exact k3
end
end Go.Proofs.Ytollibkfagjnaaa.AM
namespace Go.Proofs.Ytollibkfagjnaaa.Shape.Kit
open Go.Proofs.Ytollibkfagjnaaa.AM
theorem search_ok (x : Option (List Int)) (l : List Int) (c : Int) (hs : Sorted l) (hx : x = none → l = []) (hl : ∀ pre, x = some pre → (pre ++ l).length < 1000000) : PCall E [0] 62 [qv x l 0, i64 c] [qB x l] (fun v hp => (∃ k t, v = .tup [i64 (k : Nat), .s (.bool t)] ∧ LowB l c k) ∧ hp = [qB x l]) := by
  cases x with
  | none =>
    obtain rfl := hx rfl
    exact searchN_ok c
  | some pre => exact searchS_ok pre l c hs (hl pre rfl)
theorem agg_castK {cs cs' : List PV} (hl : cs.length = cs'.length) (h : ∀ (j : Nat) (c c' : PV), cs[j]? = some c → cs'[j]? = some c' → ∀ (F : Nat → Prop) (ρ : PR) (H : AH TV) (w : Value), PRel F ρ H c w → PRel F ρ H c' w) (F : Nat → Prop) (ρ : PR) (H : AH TV) (w : Value) (hw : PRel F ρ H (.agg cs) w) : PRel F ρ H (.agg cs') w := agg_cast hl h F ρ H w hw
/-- A function that is lent, told as what it holds. -/
theorem lent_enc {f : Fn} : ∀ (F : Nat → Prop) (ρ : PR) (H : AH TV) (w : Value), PRel F ρ H (lentF f) w → PRel F ρ H (encF f) w := by
  refine agg_castK rfl fun j c c' h1 h2 => ?_
  have hU : ∀ xs : List Int, ∀ (F : Nat → Prop) (ρ : PR) (H : AH TV) (w : Value), PRel F ρ H (lentU xs) w → PRel F ρ H (encU xs) w := fun xs => frz_cast (Nat.le_refl _) (Nat.le_succ _) fun i hi => by
    show [PV.s _] = [PV.s _]
    rw [getD_pre hi]
  have hC : ∀ xs : List (Int × Int), ∀ (F : Nat → Prop) (ρ : PR) (H : AH TV) (w : Value), PRel F ρ H (lentC xs) w → PRel F ρ H (encC xs) w := fun xs => frz_cast (Nat.le_refl _) (Nat.le_succ _) fun i hi => by
    show rowC _ i = rowC _ i
    unfold rowC
    rw [getD_pre hi]
  match j with
  | 0 => cases h1; cases h2; exact fun _ _ _ _ h => h
  | 1 => cases h1; cases h2; exact hU _
  | 2 => cases h1; cases h2; exact hU _
  | 3 => cases h1; cases h2; exact fun _ _ _ _ h => h
  | 4 => cases h1; cases h2; exact fun _ _ _ _ h => h
  | 5 => cases h1; cases h2; exact hC _
  | j + 6 => simp [cellsF] at h2
theorem tdl0 {n : Nat} (hn : 0 < n) : tdl (hs0 n) (lk0 n) = [0] := by
  have hl : (hs0 n).length = n := (hinv0 hn).len
  have h0 : ∀ b, (lk0 n).getD b false = false := fun b => by
    simp only [lk0, List.getD_eq_getElem?_getD, List.getElem?_replicate]
    split <;> rfl
  have hB : (List.range' (0 + 1) (n - 0 - 1)).filter (dueP (hs0 n) (lk0 n)) = [] := List.filter_eq_nil_iff.2 fun c hc => by
    have hc' := List.mem_range'_1.1 hc
    have : (hs0 n).getD c 0 = -1 := by
      obtain ⟨k, rfl⟩ : ∃ k, c = k + 1 := ⟨c - 1, by omega⟩
      simp only [hs0, List.getD_eq_getElem?_getD, List.getElem?_cons_succ, List.getElem?_replicate]
      rw [if_pos (by omega)]; rfl
    unfold dueP
    rw [this]; simp
  have hd0 : dueP (hs0 n) (lk0 n) 0 = true := by
    unfold dueP
    rw [h0]; rfl
  unfold tdl
  rw [hl, range_at hn, List.filter_append, List.filter_cons_of_pos hd0, hB]
  rfl
end Go.Proofs.Ytollibkfagjnaaa.Shape.Kit

namespace Go.Proofs.Ytollibkfagjnaaa.Shape.Kit
open Go.Proofs.Ytollibkfagjnaaa.AM
def cellsL (m : Md) : List PV := [lentU m.gs, lentA m.arrays, lentU m.chans, lentFs m.fns]
def uH (m : Md) (i n : Nat) (td a x10 x11 x12 x13 x22 x23 k : PV) : List PV := [.junk, i64 (i : Nat), .fptr 4 1 (fun _ => cellsL m) 0 0, .s (.slice none 0 0), .ptr 0 0, .junk, .fptr 6 1 (fun _ => lentCells (fnAt m i)) 0 0, .exv 1 1 n, td, a, x10, x11, x12, x13, .junk, .junk, .junk, .junk, .junk, .junk, .junk, .junk, x22, x23, k, .junk, .junk, .junk, .junk, .junk]
def hH (hs : List Int) (x : Option (List Int)) (td : List Int) : PH := [.cel [i64 0, i64 0, i64 0], .vec 1 hs.length (rowI .i64 hs) true, qB x td]
end Go.Proofs.Ytollibkfagjnaaa.Shape.Kit

namespace Go.Proofs.Ytollibkfagjnaaa.Shape.Kit
open Go.Proofs.Ytollibkfagjnaaa.AM
theorem row_grow {l : List Int} {x : Int} {i : Nat} (hi : i < l.length + 1) : (if i < l.length then rowI .u64 l i else ([PV.s (.int .u64 x)].drop ((i - l.length) * 1)).take 1) = rowI .u64 (l ++ [x]) i := row1_push (en := fun b => .s (.int .u64 b)) (d := 0) (xs := l) (x := x) hi
theorem app_rep {l : List Int} {x : Int} {j : Nat} : (l ++ List.replicate j x) ++ [x] = l ++ List.replicate (j + 1) x := by rw [List.append_assoc, List.replicate_succ']
end Go.Proofs.Ytollibkfagjnaaa.Shape.Kit

