/- One operation of the model against one of the abstract machine: those that neither read nor write memory. -/
import Derived.Test.YtdbehmepikhghaaAM3
import Derived.Laws.Strings
set_option linter.unusedVariables false
set_option linter.unusedSimpArgs false
namespace Go.Proofs.Ytdbehmepikhghaa.AM

theorem pureRun_run {α : Type} {P : Program} : ∀ {s : Sem α} {x : α}, pureRun P s = some x → ∀ w, s.run P w = .ok x w
  | .pure a, x, h, w => by simp only [pureRun, Option.some.injEq] at h; subst h; rfl
  | .program k, x, h, w => by rw [pureRun] at h; exact pureRun_run (s := k P) h w
  | .mark _ k, x, h, w => by rw [pureRun] at h; exact pureRun_run (s := k) h w
  | .load .., _, h, _ => by simp [pureRun] at h
  | .store .., _, h, _ => by simp [pureRun] at h
  | .new .., _, h, _ => by simp [pureRun] at h
  | .shape .., _, h, _ => by simp [pureRun] at h
  | .freeze .., _, h, _ => by simp [pureRun] at h
  | .frozen .., _, h, _ => by simp [pureRun] at h
  | .getObj .., _, h, _ => by simp [pureRun] at h
  | .setObj .., _, h, _ => by simp [pureRun] at h
  | .choose .., _, h, _ => by simp [pureRun] at h
  | .sys .., _, h, _ => by simp [pureRun] at h
  | .halt _, _, h, _ => by simp [pureRun] at h

theorem aw_eq (k : IntKind) (n : Int) : aw k n = k.wrap n := by
  cases k <;> simp only [aw, IntKind.wrap, IntKind.bits, IntKind.signed] <;> simp <;> (try split) <;> omega
theorem abits_eq (k : IntKind) (a b : Int) :
    abits .and k a b = k.wrap (BitVec.ofInt k.bits a &&& BitVec.ofInt k.bits b).toNat ∧
    abits .or k a b = k.wrap (BitVec.ofInt k.bits a ||| BitVec.ofInt k.bits b).toNat ∧
    abits .xor k a b = k.wrap (BitVec.ofInt k.bits a ^^^ BitVec.ofInt k.bits b).toNat ∧
    abits .andNot k a b = k.wrap (BitVec.ofInt k.bits a &&& ~~~ BitVec.ofInt k.bits b).toNat := by
  refine ⟨?_, ?_, ?_, ?_⟩ <;> simp only [abits, aw_eq]

section
variable {P : Program}
theorem abin_run {op : BinOp} {t : TypeId} {k k' : IntKind} {a b : Int} {v : Value} (h : abinK op k k' a b = some v) (w : World) :
    (binOp op t (.int k a) (.int k' b)).run P w = .ok v w ∧ flat v = true := by
  obtain ⟨e1, e2, e3, e4⟩ := abits_eq k a b
  cases op <;> simp only [abinK, abinI, ashl, ashr, aquo, arem, someInt, someBool, aw_eq, e1, e2, e3, e4] at h <;>
    (first
      | (split at h <;> (first | (cases h; done) | (injection h with h; subst h; simp_all [binOp, Op.shift, Op.intArith, Op.intDiv, Op.intBits, Op.intCmp, flat, flat1]; done) |
          (split at h <;> (first | (cases h; done) | (injection h with h; subst h; simp_all [binOp, Op.shift, Op.intArith, Op.intDiv, Op.intBits, Op.intCmp, flat, flat1]; done)))))
      | (by_cases hb : b < 0
         · rw [if_pos hb] at h; cases h
         · rw [if_neg hb] at h
           injection h with h
           subst h
           simp [binOp, Op.shift, hb, flat, flat1]))

def passG (a b : Value) : Bool := match a, b with | .nilIface, .nilIface => false | .agg _, .agg _ => false | _, _ => true
theorem eqGuard_pass {op : BinOp} {t : TypeId} {x y : Operand} {a b : Value} (h : passG a b = true) (w : World) :
    (eqGuard op t x y a b).run P w = .ok () w := by
  unfold eqGuard
  cases op <;> simp <;> (cases a <;> cases b <;> simp_all [passG])
/-- What an operation on values comes to. -/
def Runs (P : Program) (s : Sem Value) (v : Value) : Prop := ∀ w, s.run P w = .ok v w
/-- The same, of an operation of the program. -/
def Yes (P : Program) (ρv : Operand → Value) (o : Oper) (v : Value) : Prop := ∀ w, (execOp ρv o).run P w = .ok (.value v) w

variable {ρv : Operand → Value} {o : Oper} {ρ : Rho} {V : Type → Type} [Vec V]
theorem yes_binOp {op : BinOp} {t yt : TypeId} {x y : Operand} {v : Value} (ho : o.op = .binOp op t x y yt)
    (hg : passG (ρv x) (ρv y) = true) (hr : Runs P (binOp op t (ρv x) (ρv y)) v) : Yes P ρv o v := fun w => by
  have h1 := eqGuard_pass (P := P) (op := op) (t := t) (x := x) (y := y) hg w
  simp [execOp, ho, h1, hr w]

theorem eqIn_slice1 {t e : TypeId} (hd : P.underlying t = some (.slice e)) (d n c : Nat) (b : Option Addr) (m f : Nat) (w : World) : (Op.equalIn (d + 1) t (.slice none n c) (.slice b m f)).run P w = .ok b.isNone w := by
  simp [Op.equalIn, run_underlying hd]
theorem eqIn_slice2 {t e : TypeId} (hd : P.underlying t = some (.slice e)) (d n c : Nat) (a : Addr) (m f : Nat) (w : World) : (Op.equalIn (d + 1) t (.slice (some a) n c) (.slice none m f)).run P w = .ok false w := by
  simp [Op.equalIn, run_underlying hd]
theorem eqIn_ptr1 {t e : TypeId} (hd : P.underlying t = some (.pointer e)) (d : Nat) (b : Option Addr) (w : World) : (Op.equalIn (d + 1) t (.pointer none) (.pointer b)).run P w = .ok b.isNone w := by
  simp [Op.equalIn, run_underlying hd]
theorem eqIn_ptr2 {t e : TypeId} (hd : P.underlying t = some (.pointer e)) (d : Nat) (a : Addr) (w : World) : (Op.equalIn (d + 1) t (.pointer (some a)) (.pointer none)).run P w = .ok false w := by
  simp [Op.equalIn, run_underlying hd]
theorem eqIn_fn1 {t : TypeId} {ps rs : Array TypeId} {vr : Bool} (hd : P.underlying t = some (.func ps rs vr)) (d : Nat) (w : World) : (Op.equalIn (d + 1) t .nilFunc .nilFunc).run P w = .ok true w := by
  simp [Op.equalIn, run_underlying hd]
theorem eqIn_fn2 {t : TypeId} {ps rs : Array TypeId} {vr : Bool} (hd : P.underlying t = some (.func ps rs vr)) (d : Nat) (f : Fn) (a c : Array Value) (w : World) :
    (Op.equalIn (d + 1) t .nilFunc (.func f a c)).run P w = .ok false w ∧ (Op.equalIn (d + 1) t (.func f a c) .nilFunc).run P w = .ok false w := by
  constructor <;> simp [Op.equalIn, run_underlying hd]
theorem eqIn_bool {t : TypeId} (hd : P.underlying t = some .bool) (d : Nat) (a b : Bool) (w : World) : (Op.equalIn (d + 1) t (.bool a) (.bool b)).run P w = .ok (a == b) w := by
  simp [Op.equalIn, run_underlying hd]
/-- From 'Op.equal' to the two operators. -/
theorem run_of_equal {t : TypeId} {a b : Value} {r : Bool} (hb1 : binOp .eql t a b = (do pure (.bool (← Op.equal t a b)))) (hb2 : binOp .neq t a b = (do pure (.bool (!(← Op.equal t a b)))))
    (h : ∀ w, (Op.equalIn (9999 + 1) t a b).run P w = .ok r w) : Runs P (binOp .eql t a b) (.bool r) ∧ Runs P (binOp .neq t a b) (.bool (!r)) := by
  refine ⟨fun w => ?_, fun w => ?_⟩
  · rw [hb1]; simp only [Op.equal, Op.maxDepth, Sem.run_bind, h w, Result.andThen_ok, Sem.run_pure]
  · rw [hb2]; simp only [Op.equal, Op.maxDepth, Sem.run_bind, h w, Result.andThen_ok, Sem.run_pure]
theorem run_eqn_slice {t e : TypeId} (hd : P.underlying t = some (.slice e)) {a b : Value} {r : Bool} (h : aeqn 0 a b = some r) :
    Runs P (binOp .eql t a b) (.bool r) ∧ Runs P (binOp .neq t a b) (.bool (!r)) := by
  cases a with
  | slice x n c =>
    cases b with
    | slice y m d =>
      cases x with
      | none => simp [aeqn] at h; subst h; exact run_of_equal rfl rfl (fun w => eqIn_slice1 hd _ _ _ _ _ _ w)
      | some x =>
        cases y with
        | some y => simp [aeqn] at h
        | none => simp [aeqn] at h; subst h; exact run_of_equal rfl rfl (fun w => eqIn_slice2 hd _ _ _ _ _ _ w)
    | _ => cases x <;> simp [aeqn] at h
  | _ => simp [aeqn] at h
theorem run_eqn_pointer {t e : TypeId} (hd : P.underlying t = some (.pointer e)) {a b : Value} {r : Bool} (h : aeqn 1 a b = some r) :
    Runs P (binOp .eql t a b) (.bool r) ∧ Runs P (binOp .neq t a b) (.bool (!r)) := by
  cases a with
  | pointer x =>
    cases b with
    | pointer y =>
      cases x with
      | none => simp [aeqn] at h; subst h; exact run_of_equal rfl rfl (fun w => eqIn_ptr1 hd _ _ w)
      | some x =>
        cases y with
        | some y => simp [aeqn] at h
        | none => simp [aeqn] at h; subst h; exact run_of_equal rfl rfl (fun w => eqIn_ptr2 hd _ _ w)
    | _ => cases x <;> simp [aeqn] at h
  | _ => simp [aeqn] at h
theorem run_eqn_func {t : TypeId} {ps rs : Array TypeId} {vr : Bool} (hd : P.underlying t = some (.func ps rs vr)) {a b : Value} {r : Bool} (h : aeqn 2 a b = some r) :
    Runs P (binOp .eql t a b) (.bool r) ∧ Runs P (binOp .neq t a b) (.bool (!r)) := by
  cases a <;> simp [aeqn] at h <;> cases b <;> simp at h <;> subst h
  · exact run_of_equal rfl rfl (fun w => (eqIn_fn2 hd _ _ _ _ w).2)
  · exact run_of_equal rfl rfl (fun w => (eqIn_fn2 hd _ _ _ _ w).1)
  · exact run_of_equal rfl rfl (fun w => eqIn_fn1 hd _ w)
theorem run_beq {t : TypeId} (hd : P.underlying t = some .bool) (a b : Bool) :
    Runs P (binOp .eql t (.bool a) (.bool b)) (.bool (a == b)) ∧ Runs P (binOp .neq t (.bool a) (.bool b)) (.bool (!(a == b))) :=
  run_of_equal rfl rfl (fun w => eqIn_bool hd _ _ _ w)

theorem bytes_list (s : ByteArray) : s.toList = bytesOf s := ByteArray.toList_eq s
theorem lessB_eq : ∀ (a b : List UInt8), lessB a b = Op.bytesLess a b
  | a, [] => by cases a <;> rfl
  | [], _ :: _ => rfl
  | a :: x, b :: y => by simp only [lessB, Op.bytesLess, lessB_eq x y]
theorem str_of_bytes (s : ByteArray) : strOf (bytesOf s) = .string s := by
  cases s; rfl
theorem bytes_length (s : ByteArray) : (bytesOf s).length = s.size := Array.length_toList
theorem bytes_append (x y : ByteArray) : bytesOf (x ++ y) = bytesOf x ++ bytesOf y := by simp [bytesOf]
theorem run_sbin {op : BinOp} {t : TypeId} {x y : ByteArray} {v : Value} (h : sbinS op x y = some v) : Runs P (binOp op t (.string x) (.string y)) v ∧ flat v = true := by
  cases op <;> simp only [sbinS] at h <;> (first | (cases h; done) | skip)
  · split at h
    · cases h
    · rename_i hn
      injection h with h
      subst h
      refine ⟨fun w => ?_, rfl⟩
      have e : IntKind.i64.max = 9223372036854775807 := by decide
      rw [← bytes_append, str_of_bytes]
      simp [binOp, Op.stringOp, e]
      omega
  all_goals (injection h with h; subst h; refine ⟨fun w => ?_, rfl⟩; simp [binOp, Op.stringOp, bytes_list, lessB_eq])

/-! ### Operands -/
theorem withH_some {W : Type → Type} {H H' : AH W} {x : Option Value} {v : Value} (h : withH H x = some (v, H')) : x = some v ∧ H' = H := by
  cases x with
  | none => cases h
  | some u => simp only [withH, Option.some.injEq, Prod.mk.injEq] at h; exact ⟨by rw [h.1], h.2.symm⟩
section
variable {χ α : Type} {ev : χ → Option Value}
theorem x1_some {f : Value → Option α} {x : χ} {r : α} (h : x1 f ev x = some r) : ∃ a, ev x = some a ∧ f a = some r := by
  unfold x1 at h
  split at h
  · exact ⟨_, ‹_›, h⟩
  · cases h
theorem x2_some {f : Value → Value → Option α} {x y : χ} {r : α} (h : x2 f ev x y = some r) : ∃ a b, ev x = some a ∧ ev y = some b ∧ f a b = some r := by
  unfold x2 at h
  split at h
  · split at h
    · exact ⟨_, _, ‹_›, ‹_›, h⟩
    · cases h
  · cases h
theorem xs_some {f : List Value → Option α} {l : List χ} {r : α} (h : xs f ev l = some r) : ∃ a, evs ev l = some a ∧ f a = some r := by
  unfold xs at h
  split at h
  · exact ⟨_, ‹_›, h⟩
  · cases h
theorem evs_nil {l : List Value} (h : evs ev [] = some l) : l = [] := by simpa [evs, eq_comm] using h
theorem evs_cons {x : χ} {r : List χ} {l : List Value} (h : evs ev (x :: r) = some l) : ∃ v vs, ev x = some v ∧ evs ev r = some vs ∧ l = v :: vs := by
  unfold evs at h
  split at h
  · split at h
    · injection h with h; exact ⟨_, _, ‹_›, ‹_›, h.symm⟩
    · cases h
  · cases h
theorem xo_some {x : Option χ} {r : Option Value} (h : xo ev x = some r) : (x = none ∧ r = none) ∨ ∃ y v, x = some y ∧ ev y = some v ∧ r = some v := by
  cases x with
  | none => simp [xo] at h; exact .inl ⟨rfl, h.symm⟩
  | some y =>
    simp only [xo] at h
    cases hy : ev y with
    | none => rw [hy] at h; cases h
    | some v => rw [hy] at h; injection h with h; exact .inr ⟨_, _, rfl, hy, h.symm⟩
end
/-- The operands' values are what the model holds. -/
def ERel (ρ : Rho) (ev : Operand → Option Value) (ρv : Operand → Value) : Prop := ∀ x v, ev x = some v → VRel ρ v (ρv x)
variable {ev : Operand → Option Value}
theorem ERel.evs (he : ERel ρ ev ρv) : ∀ {xs : List Operand} {vs : List Value}, evs ev xs = some vs → VRels ρ vs (xs.map ρv)
  | [], vs, h => by rw [evs_nil h]; exact .nil
  | x :: r, vs, h => by
    obtain ⟨v, l, h1, h2, rfl⟩ := evs_cons h
    exact .cons (he _ _ h1) (ERel.evs he h2)

theorem aeqn_rel {kd : Nat} {a b a' b' : Value} {r : Bool} (ha : VRel ρ a a') (hb : VRel ρ b b') (h : aeqn kd a b = some r) : aeqn kd a' b' = some r := by
  match kd, a, b, h with
  | 0, .slice none n c, .slice y m d, h =>
    obtain ⟨rfl, rfl, rfl⟩ := ha.sl_none
    cases y with
    | none => obtain ⟨rfl, rfl, rfl⟩ := hb.sl_none; exact h
    | some y =>
      rcases hb.sl_any with hsp | ⟨rfl, _, a', c', rfl, _⟩
      · obtain ⟨b1, o, cb, co, rfl, _, hh⟩ := hb.sl_some hsp
        rcases hh with ⟨c', rfl, _, _⟩ | ⟨rfl, _, o', c', rfl, _⟩ <;> exact h
      · exact h
  | 0, .slice (some x) n c, .slice none m d, h =>
    obtain ⟨rfl, rfl, rfl⟩ := hb.sl_none
    rcases ha.sl_any with hsp | ⟨rfl, _, a', c', rfl, _⟩
    · obtain ⟨b1, o, cb, co, rfl, _, hh⟩ := ha.sl_some hsp
      rcases hh with ⟨c', rfl, _, _⟩ | ⟨rfl, _, o', c', rfl, _⟩ <;> exact h
    · exact h
  | 1, .pointer none, .pointer y, h =>
    rw [ha.ptr_none]
    cases y with
    | none => rw [hb.ptr_none]; exact h
    | some y => obtain ⟨_, _, _, _, rfl, _, rfl⟩ := hb.ptr_some; exact h
  | 1, .pointer (some x), .pointer none, h =>
    rw [hb.ptr_none]
    obtain ⟨_, _, _, _, rfl, _, rfl⟩ := ha.ptr_some; exact h
  | 2, .nilFunc, .nilFunc, h => rw [ha.nilFunc, hb.nilFunc]; exact h
  | 2, .nilFunc, .func f x y, h =>
    rw [ha.nilFunc]
    cases hb with
    | flat hf => simp [flat, flat1] at hf
    | fn _ _ => exact h
    | yld _ => exact h
  | 2, .func f x y, .nilFunc, h =>
    rw [hb.nilFunc]
    cases ha with
    | flat hf => simp [flat, flat1] at hf
    | fn _ _ => exact h
    | yld _ => exact h

/-! ### Cuts -/
theorem abound_some {v v' : Value} {m k : Nat} (h : abound v m = some k) (hr : VRel ρ v v') : ∃ kd i, v' = .int kd i ∧ 0 ≤ i ∧ i ≤ m ∧ k = i.toNat := by
  unfold abound at h
  split at h
  · split at h
    · injection h with h
      exact ⟨_, _, hr.int, (‹_ ∧ _›).1, (‹_ ∧ _›).2, h.symm⟩
    · cases h
  · cases h
theorem run_bound {kd : IntKind} {i : Int} {y : Nat} {code : BoundsCode} (h0 : 0 ≤ i) (h1 : i ≤ y) (w : World) : (Instr.sliceBound (.int kd i) y code).run P w = .ok i.toNat w := by
  simp [Instr.sliceBound, asIntOf, h0, h1]
inductive ORel (ρ : Rho) : Option Value → Option Value → Prop
  | none : ORel ρ none none
  | some {v v' : Value} (h : VRel ρ v v') : ORel ρ (some v) (some v')
theorem aoptb_some {v v' : Option Value} {d m k : Nat} (h : aoptb v d m = some k) (hr : ORel ρ v v') : (v' = none ∧ k = d) ∨ ∃ kd i, v' = some (.int kd i) ∧ 0 ≤ i ∧ i ≤ m ∧ k = i.toNat := by
  cases hr with
  | none => simp [aoptb] at h; exact .inl ⟨rfl, h.symm⟩
  | some hv => obtain ⟨kd, i, rfl, a, b, c⟩ := abound_some (by simpa [aoptb] using h) hv; exact .inr ⟨kd, i, rfl, a, b, c⟩
theorem run_bounds {isS : Bool} {n c c' m hh l : Nat} {lo hi mx lo' hi' mx' : Option Value} (hc : c ≤ c') (hnone : (mx.isSome && hi.isNone) = false)
    (rl : ORel ρ lo lo') (rh : ORel ρ hi hi') (rm : ORel ρ mx mx') (h1 : aoptb mx c c = some m) (h2 : aoptb hi n m = some hh) (h3 : aoptb lo 0 hh = some l) (w : World) :
    (Instr.sliceBounds isS n c' lo' hi' mx').run P w = .ok (l, hh, if mx.isSome then m else c') w := by
  have e1 := aoptb_some h1 rm
  have e2 := aoptb_some h2 rh
  have e3 := aoptb_some h3 rl
  have hm : mx.isSome = mx'.isSome := by cases rm <;> rfl
  have hh' : hi.isNone = hi'.isNone := by cases rh <;> rfl
  rw [hm] at hnone ⊢
  rw [hh'] at hnone
  rcases e1 with ⟨rfl, rfl⟩ | ⟨kd, i, rfl, a, b, rfl⟩
  · rcases e2 with ⟨rfl, rfl⟩ | ⟨kd, i, rfl, a, b, rfl⟩
    · rcases e3 with ⟨rfl, rfl⟩ | ⟨kd3, i3, rfl, a3, b3, rfl⟩
      · simp [Instr.sliceBounds]
      · simp [Instr.sliceBounds, run_bound a3 b3]
    · rcases e3 with ⟨rfl, rfl⟩ | ⟨kd3, i3, rfl, a3, b3, rfl⟩
      · simp [Instr.sliceBounds, run_bound a (show i ≤ c' by omega)]
      · simp [Instr.sliceBounds, run_bound a (show i ≤ c' by omega), run_bound a3 b3]
  · rcases e2 with ⟨rfl, rfl⟩ | ⟨kd2, i2, rfl, a2, b2, rfl⟩
    · simp at hnone
    · rcases e3 with ⟨rfl, rfl⟩ | ⟨kd3, i3, rfl, a3, b3, rfl⟩
      · simp [Instr.sliceBounds, run_bound a (show i ≤ c' by omega), run_bound a2 b2]
      · simp [Instr.sliceBounds, run_bound a (show i ≤ c' by omega), run_bound a2 b2, run_bound a3 b3]

theorem add_mk (b o n : Nat) : (⟨b, o, none⟩ : Addr).add n = ⟨b, o + n, none⟩ := by unfold Addr.add; split <;> simp_all
theorem asliceV_sound {size : Nat} {t e : TypeId} (ht : P.underlying t = some (.slice e)) (hs : (P.info? e).isSome = true) (hpos : 0 < size) (hsz : size = sizeT P e) {x x' r : Value} {lo hi mx lo' hi' mx' : Option Value}
    (hx : VRel ρ x x') (rl : ORel ρ lo lo') (rh : ORel ρ hi hi') (rm : ORel ρ mx mx') (h : asliceV size x lo hi mx = some r) : ∃ r', VRel ρ r r' ∧ Runs P (Instr.sliceAt t x' lo' hi' mx') r' := by
  obtain ⟨i, hi0⟩ := Option.isSome_iff_exists.1 hs
  have hsz' : i.size = size := by simp [hsz, sizeT, hi0]
  unfold asliceV at h
  split at h
  case h_2 => cases h
  rename_i a n ce
  unfold asliceS at h
  split at h
  · cases h
  rename_i hnone
  rw [Bool.or_eq_true, not_or, decide_eq_true_eq, Bool.not_eq_true] at hnone
  obtain ⟨hnone, hn⟩ := hnone
  split at h
  · cases h
  rename_i m h1
  split at h
  · cases h
  rename_i hh h2
  split at h
  · cases h
  rename_i l h3
  have e1 := aoptb_some h1 rm
  have e2 := aoptb_some h2 rh
  have e3 := aoptb_some h3 rl
  have hmle : m ≤ ce / 2 := by rcases e1 with ⟨_, rfl⟩ | ⟨_, _, _, _, _, rfl⟩ <;> omega
  have hlh : l ≤ hh := by rcases e3 with ⟨_, rfl⟩ | ⟨_, _, _, _, _, rfl⟩ <;> omega
  have hm0 : mx.isSome = true ∨ m = ce / 2 := by
    cases rm with
    | none => simp [aoptb] at h1; exact .inr h1.symm
    | some _ => exact .inl rfl
  have hhm : hh ≤ m := by
    rcases e2 with ⟨hq, rfl⟩ | ⟨_, _, _, _, _, rfl⟩
    · rcases hm0 with hm0 | hm0
      · have : hi.isNone = true := by subst hq; cases rh; rfl
        rw [hm0, this] at hnone; cases hnone
      · omega
    · omega
  cases a with
  | none =>
    simp only at h
    split at h
    · rename_i hz
      injection h with h
      subst h
      obtain ⟨rfl, rfl⟩ := hz
      obtain ⟨_, _, rfl⟩ := hx.sl_none
      refine ⟨_, .flat rfl, fun w => ?_⟩
      have hb := run_bounds (P := P) (isS := true) (Nat.le_refl 0) hnone rl rh rm h1 h2 h3 w
      have hl0 : l = 0 ∧ hh = 0 ∧ (if mx.isSome then m else 0) = 0 := ⟨by omega, by omega, by split <;> omega⟩
      rw [hl0.1, hl0.2.1, hl0.2.2] at hb
      simp [Instr.sliceAt, Instr.slice, run_underlying ht, hb, sizeOf, typeInfo, hi0]
    · cases h
  | some a =>
    simp only at h
    unfold acut at h
    have zero : ∀ (a' : Addr) (c' : Nat), n = 0 → ce ≤ 1 → (ce = 1 → c' = 0) → (∀ e2 c2, e2 ≤ 1 → (e2 = 1 → c2 = 0) → VRel ρ (.slice (some a) 0 e2) (.slice (some a') 0 c2)) → x' = .slice (some a') 0 c' → ∃ r', VRel ρ r r' ∧ Runs P (Instr.sliceAt t x' lo' hi' mx') r' := by
      intro a' c' hn0 hce hex mk hxv
      subst hn0
      subst hxv
      have hc0 : ce / 2 = 0 := by omega
      have hm : m = 0 := by omega
      have hl : l = 0 := by omega
      have hhh : hh = 0 := by omega
      subst hm; subst hl; subst hhh
      have hcc : ce / 2 ≤ c' := by omega
      have hb := fun w => run_bounds (P := P) (isS := true) hcc hnone rl rh rm h1 h2 h3 w
      have hrun : ∀ w, (Instr.sliceAt t (.slice (some a') 0 c') lo' hi' mx').run P w = .ok (.slice (some a') 0 (if mx.isSome then 0 else c')) w := fun w => by
        simp [Instr.sliceAt, Instr.slice, run_underlying ht, hb w, sizeOf, typeInfo, hi0, hsz', Addr.add]
      refine ⟨_, ?_, hrun⟩
      rw [if_pos rfl] at h
      by_cases he : (if mx.isSome then 1 else ce % 2) = 1
      · rw [if_pos he] at h
        injection h with h
        subst h
        cases hms : mx.isSome with
        | true => exact mk _ _ (by omega) (fun _ => rfl)
        | false =>
          rw [hms] at he
          simp at he
          exact mk _ _ (by omega) (fun _ => by simp; exact hex (by omega))
      · rw [if_neg he] at h
        injection h with h
        subst h
        exact mk 0 _ (by omega) (by omega)
    rcases hx.sl_any with hsp | ⟨rfl, hce, a', c', rfl, hex, b, o, s, rfl⟩
    case inr => exact zero a' c' rfl hce hex (fun e2 c2 h1 h2 => .wild h1 h2) rfl
    obtain ⟨b, o, cb, co, rfl, hρ, hv⟩ := hx.sl_some hsp
    rcases hv with ⟨c', rfl, hcc, hex, hlim⟩ | ⟨rfl, hce, o', c', rfl, hex⟩
    · have hb := fun w => run_bounds (P := P) (isS := true) hcc hnone rl rh rm h1 h2 h3 w
      have hrun : ∀ w, (Instr.sliceAt t (.slice (some ⟨cb, co + o, none⟩) n c') lo' hi' mx').run P w =
          .ok (.slice (if (if mx.isSome then m else c') = l then some ⟨cb, co + o, none⟩ else some ⟨cb, co + o + l * size, none⟩) (hh - l) ((if mx.isSome then m else c') - l)) w := fun w => by
        simp [Instr.sliceAt, Instr.slice, run_underlying ht, hb w, sizeOf, typeInfo, hi0, hsz', add_mk]
      refine ⟨_, ?_, hrun⟩
      by_cases hml : m = l
      · rw [if_pos hml] at h
        by_cases he : (if mx.isSome then 1 else ce % 2) = 1
        · rw [if_pos he] at h
          injection h with h
          subst h
          have hm' : (if mx.isSome then m else c') = l := by
            cases hms : mx.isSome with
            | true => simpa using hml
            | false =>
              rw [hms] at he hm0
              simp at he hm0 ⊢
              rw [hex he]; omega
          rw [if_pos hm', hm']
          exact VRel.mk_sl hρ (by omega) (by omega) (by omega)
        · rw [if_neg he] at h
          split at h
          · rename_i hhl
            injection h with h
            subst h
            rw [hhl, Nat.sub_self]
            by_cases hq : (if mx.isSome = true then m else c') = l
            · rw [if_pos hq]; exact .slz (e := 0) hρ (by omega) (by omega)
            · rw [if_neg hq]; exact .slz (e := 0) hρ (by omega) (by omega)
          · cases h
      · rw [if_neg hml] at h
        injection h with h
        subst h
        rw [add_mk]
        cases hms : mx.isSome with
        | true =>
          simp only [if_true]
          rw [if_neg hml, Nat.add_assoc]
          exact .sl hρ (Nat.le_refl _) (by omega) (fun _ => rfl) (by intro hz; cases hz)
        | false =>
          rw [hms] at hm0
          simp at hm0 ⊢
          rw [if_neg (by omega), Nat.add_assoc]
          refine .sl hρ (by omega) (by omega) (fun he => by rw [hex he]; omega) (fun he ho => ?_)
          have hl0 : l = 0 := by
            rcases Nat.eq_zero_or_pos l with h0 | h0
            · exact h0
            · have := Nat.mul_pos h0 hpos; omega
          subst hl0
          have := hlim he (by omega)
          rw [hm0]
          simpa using this
    · exact zero ⟨cb, o', none⟩ c' rfl hce hex (fun e2 c2 h1 h2 => .slz hρ h1 h2) rfl

theorem aslarr_sound {len size : Nat} {t e : TypeId} (ht : P.underlying t = some (.array len e)) (hs : (P.info? e).isSome = true) (hsz : size = sizeT P e) {x x' r : Value} {lo hi mx lo' hi' mx' : Option Value}
    (hx : VRel ρ x x') (rl : ORel ρ lo lo') (rh : ORel ρ hi hi') (rm : ORel ρ mx mx') (h : aslarr len size x lo hi mx = some r) : ∃ r', VRel ρ r r' ∧ Runs P (Instr.sliceAt t x' lo' hi' mx') r' := by
  obtain ⟨i, hi0⟩ := Option.isSome_iff_exists.1 hs
  have hsz' : i.size = size := by simp [hsz, sizeT, hi0]
  unfold aslarr at h
  split at h
  case h_2 => cases h
  rename_i a
  split at h
  · cases h
  rename_i hnone
  rw [Bool.not_eq_true] at hnone
  split at h
  · cases h
  rename_i m h1
  split at h
  · cases h
  rename_i hh h2
  split at h
  · cases h
  rename_i l h3
  injection h with h
  subst h
  obtain ⟨b, o, cb, co, rfl, hρ, rfl⟩ := hx.ptr_some
  have hm : (if mx.isSome then m else len) = m := by
    cases rm with
    | none => simp [aoptb] at h1; simpa using h1
    | some _ => rfl
  have hb := fun w => run_bounds (P := P) (isS := false) (Nat.le_refl len) hnone rl rh rm h1 h2 h3 w
  rw [hm] at hb
  refine ⟨.slice (if m = l then some ⟨cb, co + o, none⟩ else some ⟨cb, co + o + l * size, none⟩) (hh - l) (m - l), ?_, fun w => ?_⟩
  · by_cases hml : m = l
    · rw [if_pos hml, if_pos hml]; exact .sl hρ (Nat.le_refl _) (by omega) (fun _ => rfl) (by intro hz; cases hz)
    · rw [if_neg hml, if_neg hml, add_mk, Nat.add_assoc]; exact .sl hρ (Nat.le_refl _) (by omega) (fun _ => rfl) (by intro hz; cases hz)
  · have hc := hb w
    by_cases hml : m = l
    · simp only [Instr.sliceAt, Sem.run_bind, run_underlying ht, Result.andThen_ok, Instr.sureAddr, Sem.run_pure, hc, sizeOf, typeInfo, program, Sem.run, hi0, hsz', if_pos hml]
    · simp only [Instr.sliceAt, Sem.run_bind, run_underlying ht, Result.andThen_ok, Instr.sureAddr, Sem.run_pure, hc, sizeOf, typeInfo, program, Sem.run, hi0, hsz', if_neg hml, add_mk]

theorem fScut_sound {t : TypeId} (ht : P.underlying t = some .string) {x x' r : Value} {lo hi lo' hi' : Option Value}
    (hx : VRel ρ x x') (rl : ORel ρ lo lo') (rh : ORel ρ hi hi') (h : fScut x lo hi = some r) : VRel ρ r r ∧ Runs P (Instr.sliceAt t x' lo' hi' none) r := by
  unfold fScut at h
  split at h
  case h_2 => cases h
  rename_i s
  split at h
  · cases h
  rename_i hh h2
  split at h
  · cases h
  rename_i l h3
  injection h with h
  subst h
  rw [hx.string]
  have hlen := bytes_length s
  rw [hlen] at h2
  have hb := fun w => run_bounds (P := P) (isS := false) (mx := none) (mx' := none) (m := s.size) (Nat.le_refl s.size) (by simp) rl rh .none (by simp [aoptb]) h2 h3 w
  refine ⟨.flat rfl, fun w => ?_⟩
  have hex : s.extract l hh = ⟨(((bytesOf s).drop l).take (hh - l)).toArray⟩ := by
    apply ByteArray.ext
    rw [ByteArray.data_extract]
    apply Array.ext'
    simp [bytesOf, List.extract_eq_take_drop]
  have hc := hb w
  have hu : ∀ w, (underlying t).run P w = .ok .string w := fun w => run_underlying ht w
  simp only [Instr.sliceAt, Instr.slice, Sem.run_bind, hu, Result.andThen_ok, hc, Sem.run_pure, strOf, hex, Option.isSome_none, Bool.false_eq_true, if_false]
end
end Go.Proofs.Ytdbehmepikhghaa.AM
