/- Rules for queues in a walk. -/
import Derived.Test.YtollibkfagjnaaaFrY
set_option linter.unusedVariables false
set_option linter.unusedSimpArgs false
set_option maxRecDepth 10000
namespace Go.Proofs.Ytollibkfagjnaaa.AM
section
variable {V : Type → Type} [Vec V] {E : Env V} {F F' F0 : Nat → Prop} {ρ ρ' ρ0 : PR} {H H' H0 : AH V} {hp hp' hp0 : PH} {ds ds' : List Nat} {T L : List PV} {Ta La : List Value} {inR : Bool} {p : List Nat} {a b c : ACode} {R : AE → List PV → PH → Prop} {st : PS} {dr : Bool} {ops : List AOper} {l0 : Nat} {Q : List PV → PH → Prop}
theorem prg_qlen {x : Option (List Int)} {l : List Int} {b lo cnt : Nat} {s : Src} {O : List Bool} {md : List Nat} (hs : psev T L s = some (qv x l b)) (hk : PRg E p false T ops l0 ⟨.s (.int .i64 ((l.length : Nat) : Int)) :: L, false :: O, hp, md, cnt⟩ Q) : PRg E p false T (⟨.len s, none, lo⟩ :: ops) l0 ⟨L, O, hp, md, cnt⟩ Q := by
  refine prg_v (v := .s (.int .i64 ((l.length : Nat) : Int))) (q := True) ?_ hk trivial rfl rfl rfl
  simp only [pval, hs]
  cases x <;> rfl
theorem prg_qhead {x : Option (List Int)} {l : List Int} {c : Int} {b lo lo' cnt : Nat} {s iS : Src} {O : List Bool} {md : List Nat} (hs : psev T L s = some (qv x (c :: l) b)) (hi : psev T L iS = some (.s (.int .i64 0))) (hb : hp[b]? = some (qB x (c :: l))) (hk : ∀ P, PRg E p false T ops l0 ⟨.s (.int .i64 c) :: P :: L, false :: false :: O, hp, md, cnt⟩ Q) : PRg E p false T (⟨.iaddr 1 s iS, none, lo⟩ :: ⟨.load none (.loc 0), none, lo'⟩ :: ops) l0 ⟨L, O, hp, md, cnt⟩ Q := by
  cases x with
  | none =>
    refine prg_v (v := .eptr 1 b 0 0) (q := 0 < (c :: l).length) ?_ ?_ (Nat.zero_lt_succ _) rfl rfl rfl
    · simp only [pval, hs, hi, piaddr, pnat]; rfl
    refine prg_v (v := .s (.int .i64 c)) (q := 0 < (c :: l).length ∧ 1 = 1) ?_ (hk _) ⟨Nat.zero_lt_succ _, rfl⟩ rfl rfl rfl
    show pload hp none (some (.eptr 1 b 0 0)) = _
    simp only [pload, hb, qB]
    rfl
  | some pre =>
    refine prg_v (v := .eptr 1 b (pre.length + 0) 0) (q := 0 < (c :: l).length) ?_ ?_ (Nat.zero_lt_succ _) rfl rfl rfl
    · simp only [pval, hs, hi, piaddr, pnat]; rfl
    refine prg_v (v := .s (.int .i64 c)) (q := pre.length + 0 < (pre ++ c :: l).length ∧ 1 = 1) ?_ (hk _) ⟨by simp, rfl⟩ rfl rfl rfl
    show pload hp none (some (.eptr 1 b (pre.length + 0) 0)) = _
    have : rowI .i64 (pre ++ c :: l) (pre.length + 0) = [.s (.int .i64 c)] := by simp [rowI, List.getD_eq_getElem?_getD]
    simp only [pload, hb, qB, this]
    rfl
theorem bs_q {σ : Sig} {fz : List Nat} {x : Option (List Int)} {l : List Int} {b i : Nat} (h : σ[b]? = some (some i) := by rfl) (hf : i ∉ fz := by decide) (hb : hp[i]? = some (qB x l) := by rfl) : BSub σ fz hp b (qB x l) := by
  cases x with
  | none => exact bs_same h hf hb
  | some pre => exact bs_same h hf hb
theorem bs_qcut {σ : Sig} {fz : List Nat} {x : Option (List Int)} {l : List Int} {c : Int} {b i : Nat} (hx : x = none → l = []) (h : σ[b]? = some (some i) := by rfl) (hf : i ∉ fz := by decide) (hb : hp[i]? = some (qB x (c :: l)) := by rfl) : BSub σ fz hp b (qB (x.map (· ++ [c])) l) := by
  cases x with
  | none =>
    obtain rfl := hx rfl
    exact .vec h hf hb (Nat.zero_le _) (fun h => nomatch h) fun i hi => absurd hi (Nat.not_lt_zero _)
  | some pre =>
    have e : pre ++ c :: l = (pre ++ [c]) ++ l := by simp
    refine .vec h hf hb (Nat.le_of_eq (by rw [e])) (fun _ => ⟨rfl, by rw [e]⟩) fun i hi => by rw [e]
/-- A call that reads a queue and leaves it. -/
theorem prg_qcall {fs : Src} {args : List Src} {gd : Option (Src × Bool)} {lo y : Nat} {g : FuncId} {first cap vs args' : List PV} {x : Option (List Int)} {l : List Int} {Rv : PV → Prop} (hx : st.hp[y]? = some (qB x l)) (hc : PCall E [0] g args' [qB x l] (fun v hp => Rv v ∧ hp = [qB x l])) (hv : VSubs [some y] [] st.hp (first ++ vs ++ cap) args')
    (hk : ∀ v md' cnt', Rv v → rok2 v = true ∧ (∀ κ, ren2 κ v = v) ∧ PRg E p dr T ops l0 ⟨v :: st.L, false :: st.O, st.hp, md', cnt'⟩ Q)
    (h1 : psev T st.L fs = some (.fn g first cap) := by rfl) (h2 : pevs (psev T st.L) args = some vs := by rfl) (hg : pwanted T st.L gd = some true := by rfl) : PRg E p dr T (⟨.call fs args, gd, lo⟩ :: ops) l0 st Q := by
  have hrB : ∀ κ, renB κ (qB x l) = qB x l := fun κ => by cases x <;> rfl
  refine prg_scall (σ := [y]) (fz := []) (hpc := [qB x l]) h1 h2 hg ⟨rfl, rfl, rfl, hv, .cons (bs_q rfl (by simp) hx) .nil⟩ ?_ hc ?_
  · simp only [liveIn, List.all_cons, List.all_nil, Bool.and_true, hx]
    cases x <;> rfl
  · rintro v hpc' ⟨hRv, rfl⟩
    obtain ⟨k1, k2, k3⟩ := hk v ([y] ++ [] ++ st.md) (st.cnt + 1) hRv
    refine ⟨k1, by cases x <;> rfl, Nat.le_refl _, ?_⟩
    have : emb [y] [] st.hp [qB x l] = st.hp := by
      unfold emb
      refine putL_one (hrB _) fun i C h1 h2 => ?_
      have : i = y := by omega
      subst this
      rw [hx] at h2; cases h2; rfl
    rw [this, k2]
    exact k3
end
end Go.Proofs.Ytollibkfagjnaaa.AM
namespace Go.Proofs.Ytollibkfagjnaaa.Shape.Kit
open Go.Proofs.Ytollibkfagjnaaa.AM
theorem search_ok (x : Option (List Int)) (l : List Int) (c : Int) (hs : Sorted l) (hx : x = none → l = []) (hl : ∀ pre, x = some pre → (pre ++ l).length < 1000000) : PCall E [0] 62 [qv x l 0, i64 c] [qB x l] (fun v hp => (∃ k t, v = .tup [i64 (k : Nat), .s (.bool t)] ∧ LowB l c k) ∧ hp = [qB x l]) := by
  cases x with
  | none =>
    obtain rfl := hx rfl
    exact searchN_ok c
  | some pre => exact searchS_ok pre l c hs (hl pre rfl)
theorem agg_castK {cs cs' : List PV} (hl : cs.length = cs'.length) (h : ∀ (j : Nat) (c c' : PV), cs[j]? = some c → cs'[j]? = some c' → ∀ (F : Nat → Prop) (ρ : PR) (H : AH TV) (w : Value), PRel F ρ H c w → PRel F ρ H c' w) (F : Nat → Prop) (ρ : PR) (H : AH TV) (w : Value) (hw : PRel F ρ H (.agg cs) w) : PRel F ρ H (.agg cs') w := agg_cast hl h F ρ H w hw
/-- A function that is lent, told as what it holds. -/
theorem lent_enc {f : Fn} : ∀ (F : Nat → Prop) (ρ : PR) (H : AH TV) (w : Value), PRel F ρ H (lentF f) w → PRel F ρ H (encF f) w := by
  refine agg_castK rfl fun j c c' h1 h2 => ?_
  have hU : ∀ xs : List Int, ∀ (F : Nat → Prop) (ρ : PR) (H : AH TV) (w : Value), PRel F ρ H (lentU xs) w → PRel F ρ H (encU xs) w := fun xs => frz_cast (Nat.le_refl _) (Nat.le_succ _) fun i hi => by
    show [PV.s _] = [PV.s _]
    rw [getD_pre hi]
  have hC : ∀ xs : List (Int × Int), ∀ (F : Nat → Prop) (ρ : PR) (H : AH TV) (w : Value), PRel F ρ H (lentC xs) w → PRel F ρ H (encC xs) w := fun xs => frz_cast (Nat.le_refl _) (Nat.le_succ _) fun i hi => by
    show rowC _ i = rowC _ i
    unfold rowC
    rw [getD_pre hi]
  match j with
  | 0 => cases h1; cases h2; exact fun _ _ _ _ h => h
  | 1 => cases h1; cases h2; exact hU _
  | 2 => cases h1; cases h2; exact hU _
  | 3 => cases h1; cases h2; exact fun _ _ _ _ h => h
  | 4 => cases h1; cases h2; exact fun _ _ _ _ h => h
  | 5 => cases h1; cases h2; exact hC _
  | j + 6 => simp [cellsF] at h2
theorem tdl0 {n : Nat} (hn : 0 < n) : tdl (hs0 n) (lk0 n) = [0] := by
  have hl : (hs0 n).length = n := (hinv0 hn).len
  have h0 : ∀ b, (lk0 n).getD b false = false := fun b => by
    simp only [lk0, List.getD_eq_getElem?_getD, List.getElem?_replicate]
    split <;> rfl
  have hB : (List.range' (0 + 1) (n - 0 - 1)).filter (dueP (hs0 n) (lk0 n)) = [] := List.filter_eq_nil_iff.2 fun c hc => by
    have hc' := List.mem_range'_1.1 hc
    have : (hs0 n).getD c 0 = -1 := by
      obtain ⟨k, rfl⟩ : ∃ k, c = k + 1 := ⟨c - 1, by omega⟩
      simp only [hs0, List.getD_eq_getElem?_getD, List.getElem?_cons_succ, List.getElem?_replicate]
      rw [if_pos (by omega)]; rfl
    unfold dueP
    rw [this]; simp
  have hd0 : dueP (hs0 n) (lk0 n) 0 = true := by
    unfold dueP
    rw [h0]; rfl
  unfold tdl
  rw [hl, range_at hn, List.filter_append, List.filter_cons_of_pos hd0, hB]
  rfl
end Go.Proofs.Ytollibkfagjnaaa.Shape.Kit
