import Derived.Test.YtggaimcopbjdiaaAMb
set_option linter.unusedVariables false
set_option linter.unusedSimpArgs false
namespace Go.Proofs.Ytggaimcopbjdiaa.AM
inductive PV where
 | junk
 | s (v : Value)
 | frz (sz n k : Nat) (row : Nat → List PV)
 | fptr (sz k : Nat) (row : Nat → List PV) (i off : Nat)
 | agg (cs : List PV)
 | tup (vs : List PV)
 | ptr (b off : Nat)
 | eptr (sz b i off : Nat)
 | vec (sz b n : Nat)
 | sub (sz b i n : Nat)
 | exv (sz b n : Nat)
 | fzx (sz n : Nat) (row : Nat → List PV)
 | tbv (b n : Nat)
 | que (b i n : Nat)
 | fn (f : FuncId) (first captured : List PV)
 | yld (b : Nat)
instance : Inhabited PV := ⟨.junk⟩
inductive PB where
 | dead
 | cel (cs : List PV)
 | vec (sz n : Nat) (f : Nat → List PV) (full : Bool)
 | loop (T : List PV) (ps : List (Option Nat)) (assign body : ACode) (st : LoopState) (pend : Option AE)
abbrev PH := List PB
abbrev PR := Nat → Option (Option (Nat × Nat))
section
variable {V : Type → Type} [Vec V] {E : Env V} {F F' F'' : Nat → Prop} {ρ ρ' ρ'' : PR} {H H' H'' : AH V} {hp hp' hp'' : PH} {ds ds' : List Nat}
def nilv (v : Value) : Prop := v = .slice none 0 0 ∨ ∃ b o s ce, v = .slice (some ⟨b, o, some s⟩) 0 ce
inductive FRel (F : Nat → Prop) (H : AH V) : PV → Value → Prop
 | junk (v : Value) : FRel F H .junk v
 | s (v : Value) : FRel F H (.s v) v
 | nil {sz : Nat} {row : Nat → List PV} {v : Value} (h : nilv v) : FRel F H (.frz sz 0 0 row) v
 | frz {sz n k : Nat} {row : Nat → List PV} {b off ce : Nat} {blk : List Value} {w : Bool} {lo : Nat} (hF : F b) (hg : Vec.get H b = some (.arr blk w lo)) (hn : n ≤ k) (hk : k ≤ ce / 2) (hl : off + k * sz ≤ blk.length)
   (hs : ∀ i, i < k → (row i).length = sz) (ho : ∀ v, v ∈ blk → oneCell v = true) (hc : ∀ (i j : Nat) (c : PV) (v : Value), i < k → (row i)[j]? = some c → blk[off + i * sz + j]? = some v → FRel F H c v) : FRel F H (.frz sz n k row) (.slice (some ⟨b, off, none⟩) n ce)
 | fptr {sz k i o : Nat} {row : Nat → List PV} {b off : Nat} {blk : List Value} {w : Bool} {lo : Nat} (hF : F b) (hg : Vec.get H b = some (.arr blk w lo)) (hi : i < k) (hl : off + k * sz ≤ blk.length)
   (hs : ∀ i, i < k → (row i).length = sz) (ho : ∀ v, v ∈ blk → oneCell v = true) (hc : ∀ (i j : Nat) (c : PV) (v : Value), i < k → (row i)[j]? = some c → blk[off + i * sz + j]? = some v → FRel F H c v) : FRel F H (.fptr sz k row i o) (.pointer (some ⟨b, off + i * sz + o, none⟩))
 | fzxn {sz : Nat} {row : Nat → List PV} : FRel F H (.fzx sz 0 row) (.slice none 0 0)
 | fzx {sz n : Nat} {row : Nat → List PV} {b off : Nat} {blk : List Value} {w : Bool} {lo : Nat} (hF : F b) (hg : Vec.get H b = some (.arr blk w lo)) (hl : off + n * sz ≤ blk.length)
   (hs : ∀ i, i < n → (row i).length = sz) (ho : ∀ v, v ∈ blk → oneCell v = true) (hc : ∀ (i j : Nat) (c : PV) (v : Value), i < n → (row i)[j]? = some c → blk[off + i * sz + j]? = some v → FRel F H c v) : FRel F H (.fzx sz n row) (.slice (some ⟨b, off, none⟩) n (2 * n + 1))
inductive PRel (F : Nat → Prop) (ρ : PR) (H : AH V) : PV → Value → Prop
 | fr {v : PV} {w : Value} (h : FRel F H v w) : PRel F ρ H v w
 | ptr {b off a e : Nat} (h : ρ b = some (some (a, e))) : PRel F ρ H (.ptr b off) (.pointer (some ⟨a, off, none⟩))
 | eptr {sz b i off a e : Nat} (h : ρ b = some (some (a, e))) : PRel F ρ H (.eptr sz b i off) (.pointer (some ⟨a, i * sz + off, none⟩))
 | vec {sz b n a ce : Nat} (h : ρ b = some (some (a, ce))) (hn : n ≤ ce / 2) : PRel F ρ H (.vec sz b n) (.slice (some ⟨a, 0, none⟩) n ce)
 | vecz {sz b n : Nat} (h : ρ b = some none) (hn : n = 0) : PRel F ρ H (.vec sz b n) (.slice none 0 0)
 | sub {sz b i n o a ce ce' : Nat} (h : ρ b = some (some (a, ce))) (ho : n = 0 ∨ o = i * sz) (hl : o ≤ ce / 2 * sz) (hn : n ≤ ce' / 2) : PRel F ρ H (.sub sz b i n) (.slice (some ⟨a, o, none⟩) n ce')
 | exv {sz b n a ce : Nat} (h : ρ b = some (some (a, ce))) (hn : n ≤ ce / 2) : PRel F ρ H (.exv sz b n) (.slice (some ⟨a, 0, none⟩) n (2 * n + 1))
 | exvz {sz b n : Nat} (h : ρ b = some none) (hn : n = 0) : PRel F ρ H (.exv sz b n) (.slice none 0 0)
 | tbv {b n a : Nat} (h : ρ b = some (some (a, 2 * n))) (hn : 0 < n) : PRel F ρ H (.tbv b n) (.slice (some ⟨a, 0, none⟩) n (2 * n))
 | que {b i n a ce : Nat} (h : ρ b = some (some (a, ce))) : PRel F ρ H (.que b i n) (.iface 0 (.slice (some ⟨a, i, none⟩) n 0))
 | yld {b a e : Nat} (h : ρ b = some (some (a, e))) : PRel F ρ H (.yld b) (.func (.yield a) #[] #[])
 | subz {sz b i n : Nat} (h : ρ b = some none) (hn : n = 0) : PRel F ρ H (.sub sz b i n) (.slice none 0 0)
 | agg {cs : List PV} {l : List Value} (hl : cs.length = l.length) (h : ∀ (j : Nat) (c : PV) (v : Value), cs[j]? = some c → l[j]? = some v → PRel F ρ H c v) : PRel F ρ H (.agg cs) (.agg l.toArray)
 | tup {cs : List PV} {l : List Value} (hl : cs.length = l.length) (h : ∀ (j : Nat) (c : PV) (v : Value), cs[j]? = some c → l[j]? = some v → PRel F ρ H c v) : PRel F ρ H (.tup cs) (.tuple l.toArray)
 | fn {f : FuncId} {cs ds : List PV} {l m : List Value} (hl : cs.length = l.length) (h : ∀ (j : Nat) (c : PV) (v : Value), cs[j]? = some c → l[j]? = some v → PRel F ρ H c v) (hm : ds.length = m.length) (h' : ∀ (j : Nat) (c : PV) (v : Value), ds[j]? = some c → m[j]? = some v → PRel F ρ H c v) : PRel F ρ H (.fn f cs ds) (.func (.func f) l.toArray m.toArray)
structure PRels (F : Nat → Prop) (ρ : PR) (H : AH V) (cs : List PV) (l : List Value) : Prop where
 len : cs.length = l.length
 at' : ∀ (j : Nat) (c : PV) (v : Value), cs[j]? = some c → l[j]? = some v → PRel F ρ H c v
structure FLe (F : Nat → Prop) (H : AH V) (F' : Nat → Prop) (H' : AH V) : Prop where
 mono : ∀ a, F a → F' a
 get : ∀ a, F a → Vec.get H' a = Vec.get H a
theorem FLe.refl (F : Nat → Prop) (H : AH V) : FLe F H F H := ⟨fun _ h => h, fun _ _ => rfl⟩
theorem FLe.trans (h : FLe F H F' H') (k : FLe F' H' F'' H'') : FLe F H F'' H'' := ⟨fun a x => k.mono a (h.mono a x), fun a x => (k.get a (h.mono a x)).trans (h.get a x)⟩
def RLe' (ρ ρ' : PR) : Prop := ∀ b x, ρ b = some x → ρ' b = some x
theorem FRel.mono {v : PV} {w : Value} (h : FRel F H v w) (hle : FLe F H F' H') : FRel F' H' v w := by
 induction h with
 | junk v => exact .junk v
 | s v => exact .s v
 | nil h => exact .nil h
 | frz hF hg hn hk hl hs ho hc ih => exact .frz (hle.mono _ hF) ((hle.get _ hF).trans hg) hn hk hl hs ho ih
 | fptr hF hg hi hl hs ho hc ih => exact .fptr (hle.mono _ hF) ((hle.get _ hF).trans hg) hi hl hs ho ih
 | fzxn => exact .fzxn
 | fzx hF hg hl hs ho hc ih => exact .fzx (hle.mono _ hF) ((hle.get _ hF).trans hg) hl hs ho ih
theorem PRel.mono {v : PV} {w : Value} (h : PRel F ρ H v w) (hle : FLe F H F' H') (hr : RLe' ρ ρ') : PRel F' ρ' H' v w := by
 induction h with
 | fr h => exact .fr (h.mono hle)
 | ptr h => exact .ptr (hr _ _ h)
 | eptr h => exact .eptr (hr _ _ h)
 | vec h hn => exact .vec (hr _ _ h) hn
 | vecz h hn => exact .vecz (hr _ _ h) hn
 | sub h ho hl hn => exact .sub (hr _ _ h) ho hl hn
 | exv h hn => exact .exv (hr _ _ h) hn
 | exvz h hn => exact .exvz (hr _ _ h) hn
 | tbv h hn => exact .tbv (hr _ _ h) hn
 | que h => exact .que (hr _ _ h)
 | yld h => exact .yld (hr _ _ h)
 | subz h hn => exact .subz (hr _ _ h) hn
 | agg hl h ih => exact .agg hl ih
 | tup hl h ih => exact .tup hl ih
 | fn hl h hm h' ih ih' => exact .fn hl ih hm ih'
theorem PRels.mono {cs : List PV} {l : List Value} (h : PRels F ρ H cs l) (hle : FLe F H F' H') (hr : RLe' ρ ρ') : PRels F' ρ' H' cs l := ⟨h.len, fun j c v q1 q2 => (h.at' j c v q1 q2).mono hle hr⟩
theorem PRels.nil : PRels F ρ H [] [] := ⟨rfl, fun j c v h => by simp at h⟩
theorem PRels.cons {c : PV} {v : Value} {cs : List PV} {l : List Value} (h : PRel F ρ H c v) (t : PRels F ρ H cs l) : PRels F ρ H (c :: cs) (v :: l) := ⟨by simp [t.len], fun j c' v' h1 h2 => by
 cases j with
 | zero => simp only [List.getElem?_cons_zero, Option.some.injEq] at h1 h2; subst h1; subst h2; exact h
 | succ j => simp only [List.getElem?_cons_succ] at h1 h2; exact t.at' j _ _ h1 h2⟩
theorem PRels.get {cs : List PV} {l : List Value} (h : PRels F ρ H cs l) {j : Nat} {c : PV} (hc : cs[j]? = some c) : ∃ v, l[j]? = some v ∧ PRel F ρ H c v := by
 have hj := (List.getElem?_eq_some_iff.1 hc).1
 have : l[j]? = some (l[j]'(by rw [← h.len]; exact hj)) := List.getElem?_eq_getElem _
 exact ⟨_, this, h.at' j _ _ hc this⟩
theorem PRels.append {cs cs' : List PV} {l l' : List Value} (h : PRels F ρ H cs l) (h' : PRels F ρ H cs' l') : PRels F ρ H (cs ++ cs') (l ++ l') := ⟨by simp [h.len, h'.len], fun j c v q1 q2 => by
 by_cases hj : j < cs.length
 ·rw [List.getElem?_append_left hj] at q1
  rw [List.getElem?_append_left (by rw [← h.len]; exact hj)] at q2
  exact h.at' j c v q1 q2
 ·rw [List.getElem?_append_right (by omega)] at q1
  rw [List.getElem?_append_right (by rw [← h.len]; omega), ← h.len] at q2
  exact h'.at' _ c v q1 q2⟩
theorem PRels.drop {cs : List PV} {l : List Value} (h : PRels F ρ H cs l) (n : Nat) : PRels F ρ H (cs.drop n) (l.drop n) := ⟨by simp [h.len], fun j c v q1 q2 => by
 rw [List.getElem?_drop] at q1 q2; exact h.at' _ c v q1 q2⟩
theorem PRels.take {cs : List PV} {l : List Value} (h : PRels F ρ H cs l) (n : Nat) : PRels F ρ H (cs.take n) (l.take n) := ⟨by simp [h.len], fun j c v q1 q2 => by
 rw [List.getElem?_take] at q1 q2
 split at q1
 ·next hj => rw [if_pos hj] at q2; exact h.at' _ c v q1 q2
 ·cases q1⟩
theorem PRels.set {cs : List PV} {l : List Value} (h : PRels F ρ H cs l) {n : Nat} {c : PV} {v : Value} (hv : PRel F ρ H c v) : PRels F ρ H (cs.set n c) (l.set n v) := ⟨by simp [h.len], fun j c' v' q1 q2 => by
 by_cases e : n = j
 ·subst e
  by_cases hn : n < cs.length
  ·rw [List.getElem?_set_self hn] at q1
   rw [List.getElem?_set_self (by rw [← h.len]; exact hn)] at q2
   cases q1; cases q2; exact hv
  ·rw [List.getElem?_eq_none (by rw [List.length_set]; omega)] at q1; cases q1
 ·rw [List.getElem?_set_ne e] at q1 q2; exact h.at' j _ _ q1 q2⟩
def BOk (F : Nat → Prop) (ρ : PR) (H : AH V) (b : Nat) : PB → Prop
 | .dead => True
 | .cel cs => ∃ a e vs, ρ b = some (some (a, e)) ∧ ¬ F a ∧ Vec.get H a = some (.arr vs true 0) ∧ (∀ v, v ∈ vs → oneCell v = true) ∧ PRels F ρ H cs vs
 | .loop T ps as_ bd st pe => ∃ a e Ta, ρ b = some (some (a, e)) ∧ ¬ F a ∧ Vec.get H a = some (.loop Ta ps as_ bd st pe) ∧ PRels F ρ H T Ta
 | .vec sz n f full => (ρ b = some none ∧ n = 0) ∨ ∃ a ce vs, ρ b = some (some (a, ce)) ∧ ¬ F a ∧ Vec.get H a = some (.arr vs true 0) ∧ (∀ v, v ∈ vs → oneCell v = true) ∧ ce ≠ 0 ∧ n ≤ ce / 2 ∧ (full = true → n = ce / 2) ∧ vs.length = ce / 2 * sz ∧ (∀ i, i < n → (f i).length = sz) ∧
   ∀ (i j : Nat) (c : PV) (v : Value), i < n → (f i)[j]? = some c → vs[i * sz + j]? = some v → FRel F H c v
def Own (ρ : PR) (a : Nat) : Prop := ∃ b e, ρ b = some (some (a, e))
structure Rel (F : Nat → Prop) (ρ : PR) (hp : PH) (ds : List Nat) (H : AH V) : Prop where
 fsz : ∀ a, F a → a < Vec.size H
 blk : ∀ b B, hp[b]? = some B → BOk F ρ H b B
 inj : ∀ b b' B B' a e e', hp[b]? = some B → hp[b']? = some B' → B ≠ .dead → B' ≠ .dead → ρ b = some (some (a, e)) → ρ b' = some (some (a, e')) → b = b'
 dom : ∀ b, hp.length ≤ b → ρ b = none
 own : ∀ b a e, ρ b = some (some (a, e)) → a < Vec.size H
 dfr : ∀ d, d ∈ ds → Vec.get H d = some .defr ∧ ¬ F d ∧ ¬ Own ρ d
 nd : ds.Nodup
structure PExt (F : Nat → Prop) (ρ : PR) (ds : List Nat) (H : AH V) (F' : Nat → Prop) (ρ' : PR) (ds' : List Nat) (H' : AH V) : Prop where
 size : Vec.size H ≤ Vec.size H'
 fmono : ∀ a, F a → F' a
 fget : ∀ a, F a → Vec.get H' a = Vec.get H a
 fnew : ∀ a, F' a → F a ∨ Own ρ a ∨ Vec.size H ≤ a
 keep : ∀ a, a < Vec.size H → ¬ Own ρ a → a ∉ ds → Vec.get H' a = Vec.get H a
 own : ∀ a, Own ρ' a → Own ρ a ∨ Vec.size H ≤ a
 dsx : ∀ d, d ∈ ds' → d ∈ ds ∨ Vec.size H ≤ d
theorem PExt.refl : PExt F ρ ds H F ρ ds H := ⟨Nat.le_refl _, fun _ h => h, fun _ _ => rfl, fun _ h => .inl h, fun _ _ _ _ => rfl, fun _ h => .inl h, fun _ h => .inl h⟩
theorem PExt.trans {ds'' : List Nat} (h : PExt F ρ ds H F' ρ' ds' H') (k : PExt F' ρ' ds' H' F'' ρ'' ds'' H'') : PExt F ρ ds H F'' ρ'' ds'' H'' := by
 refine ⟨Nat.le_trans h.size k.size, fun a x => k.fmono a (h.fmono a x), fun a x => (k.fget a (h.fmono a x)).trans (h.fget a x), fun a x => ?_, fun a x1 x2 x3 => ?_, fun a x => ?_, fun d x => ?_⟩
 ·rcases k.fnew a x with y | y | y
  ·exact h.fnew a y
  ·rcases h.own a y with z | z
   ·exact .inr (.inl z)
   ·exact .inr (.inr z)
  ·exact .inr (.inr (Nat.le_trans h.size y))
 ·rw [k.keep a (Nat.lt_of_lt_of_le x1 h.size) (fun y => ?_) (fun y => ?_), h.keep a x1 x2 x3]
  ·rcases h.own a y with z | z
   ·exact x2 z
   ·omega
  ·rcases h.dsx a y with z | z
   ·exact x3 z
   ·omega
 ·rcases k.own a x with y | y
  ·exact h.own a y
  ·exact .inr (Nat.le_trans h.size y)
 ·rcases k.dsx d x with y | y
  ·exact h.dsx d y
  ·exact .inr (Nat.le_trans h.size y)
theorem PExt.fle (h : PExt F ρ ds H F' ρ' ds' H') : FLe F H F' H' := ⟨h.fmono, h.fget⟩
end
end Go.Proofs.Ytggaimcopbjdiaa.AM
namespace Go.Proofs.Ytggaimcopbjdiaa.AM
def in64 (n : Int) : Prop := -9223372036854775808 ≤ n ∧ n ≤ 9223372036854775807
def psev (T L : List PV) : Src → Option PV
 | .tmp i => T[i]?
 | .loc d => L[d]?
 | .const v => match v with
   | .agg cs => some (.agg (cs.toList.map .s))
   | v => some (.s v)
 | .func f => some (.fn f [] [])
def pevs (ev : Src → Option PV) : List Src → Option (List PV)
 | [] => some []
 | x :: r => match ev x with
   | some v => (match pevs ev r with | some vs => some (v :: vs) | none => none)
   | none => none
def pwanted (T L : List PV) : Option (Src × Bool) → Option Bool
 | none => some true
 | some (s, want) => match psev T L s with
   | some (.s (.bool b)) => (match b, want with
     | true, true => some true
     | false, false => some true
     | true, false => some false
     | false, true => some false)
   | some (.s _) => some false
   | _ => none
def ptake : Nat → List PV → Option (List PV)
 | 0, _ => some []
 | _ + 1, [] => none
 | n + 1, a :: l => match ptake n l with | some r => some (a :: r) | none => none
def pcells (cs : List PV) (n : Option Nat) (off : Nat) : Option PV :=
 match n with
 | none => cs[off]?
 | some 0 => none
 | some (n + 1) => match ptake (n + 1) (cs.drop off) with | some l => some (.agg l) | none => none
def okc : PV → Bool
 | .junk => false
 | .agg _ => false
 | .tup _ => false
 | .s v => oneCell v
 | _ => true
def nlb : PV → Bool
 | .s _ => true
 | .frz _ _ _ _ => true
 | .fptr _ _ _ _ _ => true
 | .fzx _ _ _ => true
 | _ => false
def pcs : PV → List PV
 | .agg cs => cs
 | v => [v]
def psplice : List PV → Nat → List PV → List PV
 | cs, _, [] => cs
 | cs, off, v :: r => psplice (cs.set off v) (off + 1) r
def pfill (cs : List PV) : List (Nat × Nat × PV) → Option (List PV)
 | [] => some cs
 | (off, size, v) :: r => bif (pcs v).all okc && (Nat.beq (pcs v).length size && Nat.ble (off + size) cs.length) then pfill (psplice cs off (pcs v)) r else none
def pparts (ev : Src → Option PV) : List (Nat × Nat × Src) → Option (List (Nat × Nat × PV))
 | [] => some []
 | (o, s, x) :: r => match ev x with
   | some v => (match pparts ev r with | some vs => some ((o, s, v) :: vs) | none => none)
   | none => none
abbrev PVR := Option (PV × Prop)
def pv1 (v : PV) : PVR := some (v, True)
def ofV : Option Value → PVR
 | some v => some (.s v, True)
 | none => none
def pbinI (op : BinOp) (k k' : IntKind) (a b : Int) : PVR :=
 match op, k, k' with
 | .add, .i64, .i64 => some (.s (.int .i64 (a + b)), in64 (a + b))
 | .sub, .i64, .i64 => some (.s (.int .i64 (a - b)), in64 (a - b))
 | .mul, .i64, .i64 => some (.s (.int .i64 (a * b)), in64 (a * b))
 | op, k, k' => ofV (abinK op k k' a b)
def pbin (op : BinOp) (x y : Option PV) : PVR :=
 match x, y with
 | some (.s (.int k a)), some (.s (.int k' b)) => pbinI op k k' a b
 | _, _ => none
def pconv (k : IntKind) (x : Option PV) : PVR :=
 match x with
 | some (.s (.int _ n)) => (match k with
   | .i64 => some (.s (.int .i64 n), in64 n)
   | k => some (.s (.int k (aw k n)), True))
 | _ => none
def pload (hp : PH) (n : Option Nat) (p : Option PV) : PVR :=
 match p with
 | some (.fptr sz k row i off) => (match pcells (row i) n off with | some v => pv1 v | none => none)
 | some (.ptr b off) => (match hp[b]? with
   | some (.cel cs) => (match pcells cs n off with | some v => pv1 v | none => none)
   | _ => none)
 | some (.eptr sz b i off) => (match hp[b]? with
   | some (.vec sz' m f _) => (match pcells (f i) n off with | some v => some (v, i < m ∧ sz' = sz) | none => none)
   | _ => none)
 | _ => none
def pnat (i : Option PV) : Option Nat :=
 match i with
 | some (.s (.int _ z)) => (match z with | .ofNat j => some j | .negSucc _ => none)
 | _ => none
def piaddr (hp : PH) (size : Nat) (x i : Option PV) : PVR :=
 match pnat i with
 | none => none
 | some j => match x with
   | some (.frz sz n k row) => bif Nat.beq sz size then some (.fptr sz k row j 0, j < n) else none
   | some (.vec sz b n) => bif Nat.beq sz size then some (.eptr sz b j 0, j < n) else none
   | some (.sub sz b i0 n) => bif Nat.beq sz size then some (.eptr sz b (i0 + j) 0, j < n) else none
   | some (.exv sz b n) => bif Nat.beq sz size then some (.eptr sz b j 0, j < n) else none
   | some (.fzx sz n row) => bif Nat.beq sz size then some (.fptr sz n row j 0, j < n) else none
   | some (.que b i0 n) => bif Nat.beq 1 size then some (.eptr 1 b (i0 + j) 0, j < n) else none
   | _ => none
def piarr (len size : Nat) (x i : Option PV) : PVR :=
 match pnat i with
 | none => none
 | some j => match x with
   | some (.ptr b off) => some (.ptr b (off + j * size), j < len)
   | some (.fptr sz k row i0 off) => some (.fptr sz k row i0 (off + j * size), j < len)
   | some (.eptr sz b i0 off) => some (.eptr sz b i0 (off + j * size), j < len)
   | _ => none
def pfaddr (off : Nat) (x : Option PV) : PVR :=
 match x with
 | some (.ptr b o) => pv1 (.ptr b (o + off))
 | some (.fptr sz k row i o) => pv1 (.fptr sz k row i (o + off))
 | some (.eptr sz b i o) => pv1 (.eptr sz b i (o + off))
 | _ => none
def pbnd (x : Option (Option PV)) (d : Nat) : Option Nat :=
 match x with
 | none => some d
 | some v => pnat v
def pslice (size : Nat) (x : Option PV) (lo hi mx : Option (Option PV)) : PVR :=
 match x with
 | some (.frz sz n k row) =>
   bif Nat.beq sz size then
    (match mx, hi with
    | some _, none => none
    | none, _ => (match pbnd hi n, lo with
      | some h, none => some (.frz sz h k row, h ≤ k)
      | some h, some l => (match pnat l with | some l => some (.frz sz (h - l) (k - l) (fun j => row (l + j)), l ≤ h ∧ h ≤ k) | none => none)
      | none, _ => none)
    | some m, some h => (match pnat m, pnat h, lo with
      | some m, some h, none => some (.frz sz h m row, h ≤ m ∧ m ≤ k)
      | _, _, _ => none))
   else none
 | some (.vec sz b n) =>
   (match mx, lo with
    | none, none => (match pbnd hi n with | some h => some (.vec sz b h, h ≤ n) | none => none)
    | none, some l => (match pbnd hi n, pnat l with | some h, some l => some (.sub sz b l (h - l), 0 < sz ∧ sz = size ∧ l ≤ h ∧ h ≤ n) | _, _ => none)
    | _, _ => none)
 | some (.s (.slice none 0 0)) => (match mx, lo, pbnd hi 0 with | none, none, some h => some (.s (.slice none 0 0), h = 0) | _, _, _ => none)
 | _ => none
def pslarr (len size : Nat) (x : Option PV) (lo hi mx : Option (Option PV)) : PVR :=
 match x with
 | some (.fptr sz k row 0 0) => (match lo, mx, pbnd hi len with | none, none, some h => bif Nat.beq sz size then some (.frz sz h len row, h ≤ len ∧ len ≤ k) else none | _, _, _ => none)
 | _ => none
def pfld (n : Option Nat) (off : Nat) (x : Option PV) : PVR :=
 match x with
 | some (.agg cs) => (match pcells cs n off with | some v => pv1 v | none => none)
 | _ => none
def pext (i : Nat) (x : Option PV) : PVR :=
 match x with
 | some (.tup vs) => (match vs[i]? with | some v => pv1 v | none => none)
 | _ => none
def plen (x : Option PV) : PVR :=
 match x with
 | some (.frz _ n _ _) => pv1 (.s (.int .i64 (n : Int)))
 | some (.vec _ _ n) => pv1 (.s (.int .i64 (n : Int)))
 | some (.sub _ _ _ n) => pv1 (.s (.int .i64 (n : Int)))
 | some (.s (.slice none n _)) => pv1 (.s (.int .i64 (n : Int)))
 | some (.exv _ _ n) => pv1 (.s (.int .i64 (n : Int)))
 | some (.fzx _ n _) => pv1 (.s (.int .i64 (n : Int)))
 | some (.que _ _ n) => pv1 (.s (.int .i64 (n : Int)))
 | _ => none
def pnilchk (x : Option PV) : PVR :=
 match x with
 | some (.ptr b o) => pv1 (.ptr b o)
 | some (.fptr sz k row i o) => pv1 (.fptr sz k row i o)
 | some (.eptr sz b i o) => pv1 (.eptr sz b i o)
 | some (.fn f a c) => pv1 (.fn f a c)
 | _ => none
def peqn (kd : Nat) (neg : Bool) (x y : Option PV) : PVR :=
 match kd, x, y with
 | 1, some (.ptr _ _), some (.s (.pointer none)) => pv1 (.s (.bool neg))
 | 1, some (.fptr _ _ _ _ _), some (.s (.pointer none)) => pv1 (.s (.bool neg))
 | 1, some (.eptr _ _ _ _), some (.s (.pointer none)) => pv1 (.s (.bool neg))
 | 2, some (.fn _ _ _), some (.s .nilFunc) => pv1 (.s (.bool neg))
 | kd, some (.s a), some (.s b) => ofV (fEqn kd neg a b)
 | _, _, _ => none
def ps2 (f : Value → Value → Option Value) (x y : Option PV) : PVR :=
 match x, y with
 | some (.s a), some (.s b) => ofV (f a b)
 | _, _ => none
def ps1 (f : Value → Option Value) (x : Option PV) : PVR :=
 match x with
 | some (.s a) => ofV (f a)
 | _ => none
def ppick (ev : Src → Option PV) (c a b : Src) : PVR :=
 match ev c with
 | some (.s (.bool t)) => (match t with
   | true => (match ev a with | some v => pv1 v | none => none)
   | false => (match ev b with | some v => pv1 v | none => none))
 | _ => none
def pscut (x : Option PV) (lo hi : Option (Option PV)) : PVR :=
 match x, lo, hi with
 | some (.s v), none, none => ofV (fScut v none none)
 | some (.s v), some (some (.s l)), none => ofV (fScut v (some l) none)
 | some (.s v), none, some (some (.s h)) => ofV (fScut v none (some h))
 | some (.s v), some (some (.s l)), some (some (.s h)) => ofV (fScut v (some l) (some h))
 | _, _, _ => none
def pval (op : AOp Src) (ev : Src → Option PV) (hp : PH) : PVR :=
 match op with
 | .mov x => (match ev x with | some v => pv1 v | none => none)
 | .pick c a b => ppick ev c a b
 | .bin op x y => pbin op (ev x) (ev y)
 | .eqn kd neg x y => peqn kd neg (ev x) (ev y)
 | .not x => ps1 fNot (ev x)
 | .conv k x => pconv k (ev x)
 | .beq neg x y => ps2 (fBeq neg) (ev x) (ev y)
 | .sbin op x y => ps2 (fSbin op) (ev x) (ev y)
 | .sidx x y => ps2 fSidx (ev x) (ev y)
 | .slen x => ps1 fSlen (ev x)
 | .scut x lo hi => pscut (ev x) (lo.map ev) (hi.map ev)
 | .load n a => pload hp n (ev a)
 | .build cs ps => (match pparts ev ps with
   | some l => (match pfill (cs.map .s) l with | some c => pv1 (.agg c) | none => none)
   | none => none)
 | .slice size x lo hi mx => pslice size (ev x) (lo.map ev) (hi.map ev) (mx.map ev)
 | .slarr len size x lo hi mx => pslarr len size (ev x) (lo.map ev) (hi.map ev) (mx.map ev)
 | .faddr off x => pfaddr off (ev x)
 | .fld n off x => pfld n off (ev x)
 | .iaddr size x i => piaddr hp size (ev x) (ev i)
 | .iarr len size x i => piarr len size (ev x) (ev i)
 | .ext x i => pext i (ev x)
 | .mkfn f first captured => (match pevs ev first, pevs ev captured with | some a, some c => pv1 (.fn f a c) | _, _ => none)
 | .nilchk x => pnilchk (ev x)
 | .len x => plen (ev x)
 | _ => none
def force {α β : Type} : List α → (List α → Option β) → Option β
 | [], k => k []
 | a :: l, k => force l fun l' => k (a :: l')
def fb {β : Type} (b : Bool) (k : Bool → Option β) : Option β := match b with
 | true => k true
 | false => k false
theorem force_eq {α β : Type} : ∀ (l : List α) (k : List α → Option β), force l k = k l
 | [], k => rfl
 | a :: l, k => by simp only [force, force_eq l]
theorem fb_eq {β : Type} (b : Bool) (k : Bool → Option β) : fb b k = k b := by cases b <;> rfl
def fnat {β : Type} (n : Nat) (k : Nat → Option β) : Option β := match n with
 | 0 => k 0
 | 1 => k 1
 | 2 => k 2
 | 3 => k 3
 | 4 => k 4
 | 5 => k 5
 | 6 => k 6
 | 7 => k 7
 | 8 => k 8
 | 9 => k 9
 | 10 => k 10
 | 11 => k 11
 | 12 => k 12
 | 13 => k 13
 | 14 => k 14
 | 15 => k 15
 | 16 => k 16
 | 17 => k 17
 | 18 => k 18
 | 19 => k 19
 | n => k n
theorem fnat_eq {β : Type} (n : Nat) (k : Nat → Option β) : fnat n k = k n := by unfold fnat; split <;> rfl
abbrev PER := Option (PV × PH × Prop)
def pstore (hp : PH) (n : Nat) (p x : Option PV) : PER :=
 match p, x with
 | some (.ptr b off), some v => (match hp[b]? with
   | some (.cel cs) => bif (pcs v).all okc && (Nat.beq (pcs v).length n && Nat.ble (off + n) cs.length) then force (psplice cs off (pcs v)) fun c => some (.junk, hp.set b (.cel c), True) else none
   | _ => none)
 | some (.eptr sz b i off), some v => (match hp[b]? with
   | some (.vec sz' m f full) => bif (pcs v).all okc && ((pcs v).all nlb && (Nat.beq (pcs v).length n && Nat.ble (off + n) sz)) then some (.junk, hp.set b (.vec sz' m (fun j => if j = i then psplice (f j) off (pcs v) else f j) full), sz' = sz ∧ i < m) else none
   | _ => none)
 | _, _ => none
def pmkarr (hp : PH) (n : Nat) (cs : List Value) (l : Option (List (Nat × Nat × PV))) : PER :=
 match l with
 | some [] => (match n, cs with
   | 0, [] => fnat hp.length fun l => some (.vec 0 l 0, hp ++ [.vec 0 0 (fun _ => []) true], True)
   | _, _ => fnat cs.length fun cl => bif Nat.blt 0 n && (Nat.beq cl (n * (cl / n)) && cs.all oneCell) then fnat hp.length fun l => fnat (cl / n) fun z => some (.vec z l n, hp ++ [.vec z n (fun i => ((cs.map .s).drop (i * z)).take z) true], True) else none)
 | some l => (match pfill (cs.map .s) l with
   | some c => fnat c.length fun cl => bif Nat.blt 0 n && (Nat.beq cl (n * (cl / n)) && (c.all okc && c.all nlb)) then fnat hp.length fun l => fnat (cl / n) fun z => force c fun c => some (.vec z l n, hp ++ [.vec z n (fun i => (c.drop (i * z)).take z) true], True) else none
   | none => none)
 | none => none
def pmkslice (hp : PH) (zero : List Value) (bytes : Nat) (l c : Option PV) : PER :=
 match pnat l, pnat c with
 | some l, some c => bif zero.all oneCell then fnat hp.length fun k => fnat zero.length fun z => some (.vec z k l, hp ++ [.vec z l (fun _ => zero.map .s) true], l = c ∧ c * bytes ≤ 281474976710656 ∧ c ≤ 9223372036854775807) else none
 | _, _ => none
def psrc (hp : PH) (size : Nat) (x : Option PV) : Option (Nat × (Nat → List PV) × Prop) :=
 match x with
 | some (.frz sz n _ row) => bif Nat.beq sz size then some (n, row, True) else none
 | some (.vec sz b n) => (match hp[b]? with
   | some (.vec sz' m f _) => bif Nat.beq sz size then some (n, f, n ≤ m ∧ sz' = sz) else none
   | _ => none)
 | some (.sub sz b i n) => (match hp[b]? with
   | some (.vec sz' m f _) => bif Nat.beq sz size then some (n, fun j => f (i + j), i + n ≤ m ∧ sz' = sz) else none
   | _ => none)
 | some (.s (.slice none 0 0)) => some (0, fun _ => [], True)
 | _ => none
def pappend (hp : PH) (share : Bool) (size bytes : Nat) (s x : Option PV) : PER :=
 match share, psrc hp size x with
 | false, some (k, g, q) => (match s with
   | some (.s (.slice none 0 0)) => fnat hp.length fun l => some (.vec size l k, hp ++ [.vec size k g true], q ∧ k * bytes ≤ room ∧ 0 < size)
   | some (.vec 0 b n) => (match hp[b]? with
     | some (.vec 0 m f true) => fnat hp.length fun l => some (.vec size l (n + k), hp.set b .dead ++ [.vec size (n + k) (fun j => if j < n then f j else g (j - n)) true], q ∧ n = 0 ∧ m = 0 ∧ (n + k) * bytes ≤ room ∧ 0 < size)
     | _ => none)
   | some (.vec sz b n) => (match hp[b]? with
     | some (.vec sz' m f full) => (match full with
       | true => fnat hp.length fun l => some (.vec sz l (n + k), hp.set b .dead ++ [.vec sz (n + k) (fun j => if j < n then f j else g (j - n)) true], q ∧ n = m ∧ sz' = sz ∧ sz = size ∧ (n + k) * bytes ≤ room ∧ 0 < size)
       | false => fnat hp.length fun l => some (.vec sz l (n + 1), hp.set b .dead ++ [.vec sz (n + 1) (fun j => if j < n then f j else g (j - n)) false], q ∧ k = 1 ∧ n ≤ m ∧ sz' = sz ∧ sz = size ∧ (n + 1) * bytes ≤ room ∧ 0 < size))
     | _ => none)
   | some (.exv sz b n) => (match hp[b]? with
     | some (.vec sz' m f _) => fnat hp.length fun l => some (.vec sz l (n + k), hp ++ [.vec sz (n + k) (fun j => if j < n then f j else g (j - n)) true], q ∧ 0 < k ∧ n ≤ m ∧ sz' = sz ∧ sz = size ∧ (n + k) * bytes ≤ room ∧ 0 < size)
     | _ => none)
   | some (.fzx sz n row) => fnat hp.length fun l => some (.vec sz l (n + k), hp ++ [.vec sz (n + k) (fun j => if j < n then row j else g (j - n)) true], q ∧ 0 < k ∧ sz = size ∧ (n + k) * bytes ≤ room ∧ 0 < size)
   | _ => none)
 | _, _ => none
def peff (op : AOp Src) (ev : Src → Option PV) (hp : PH) : PER :=
 match op with
 | .store n a x => pstore hp n (ev a) (ev x)
 | .alloc cs => bif cs.all oneCell then fnat hp.length fun l => force (cs.map .s) fun c => some (.ptr l 0, hp ++ [.cel c], True) else none
 | .box x => (match ev x with | some v => bif (pcs v).all okc then fnat hp.length fun l => force (pcs v) fun c => some (.ptr l 0, hp ++ [.cel c], True) else none | none => none)
 | .mkarr n cs ps => pmkarr hp n cs (pparts ev ps)
 | .mkslice zero bytes l c => pmkslice hp zero bytes (ev l) (ev c)
 | .append share size bytes s x => pappend hp share size bytes (ev s) (ev x)
 | _ => none
def isHeap (op : AOp Src) : Bool :=
 match op with
 | .store .. | .alloc .. | .box .. | .mkarr .. | .mkslice .. | .append .. => true
 | _ => false
def pmod (op : AOp Src) (ev : Src → Option PV) : List Nat :=
 match op with
 | .store _ a _ => (match ev a with | some (.ptr b _) => [b] | some (.eptr _ b _ _) => [b] | _ => [])
 | .append _ _ _ s _ => (match ev s with | some (.vec _ b _) => [b] | _ => [])
 | _ => []
structure PS where
 L : List PV
 O : List Bool
 hp : PH
 md : List Nat
 cnt : Nat
def srcO (O : List Bool) : Src → Bool
 | .loc d => (O[d]?).getD false
 | .func _ => false
 | _ => true
def fresh (l0 : Nat) (md : List Nat) (O : List Bool) (a : Src) (p : Option PV) : Bool :=
 match p with
 | some (.fptr _ _ _ _ _) => srcO O a
 | some (.ptr b _) => Nat.blt b l0 && (!md.contains b && srcO O a)
 | some (.eptr _ b _ _) => Nat.blt b l0 && (!md.contains b && srcO O a)
 | _ => false
def opO (l0 : Nat) (st : PS) (T : List PV) (op : AOp Src) : Bool :=
 match op with
 | .mov x | .faddr _ x | .fld _ _ x | .nilchk x => srcO st.O x
 | .iaddr _ x _ | .iarr _ _ x _ => srcO st.O x
 | .load _ a => fresh l0 st.md st.O a (psev T st.L a)
 | _ => false
def vq1 : PV → Bool
 | .s v => (match v with | .bool _ | .int _ _ | .string _ | .pointer _ | .slice _ _ _ | .nilFunc | .nilIface => true | _ => false)
 | .frz _ _ _ _ | .fptr _ _ _ _ _ | .ptr _ _ | .eptr _ _ _ _ | .vec _ _ _ | .sub _ _ _ _ | .exv _ _ _ => true
 | _ => false
def vq : PV → Bool
 | .agg cs => cs.all vq1
 | v => vq1 v
def plOk (l0 : Nat) (st : PS) (T : List PV) (lo : Nat) (op : AOp Src) (v : PV) : Bool :=
 match op with
 | .load _ a => bif Nat.ble st.cnt lo then true else fresh l0 st.md st.O a (psev T st.L a) && vq v
 | _ => true
def pstep (dr : Bool) (l0 : Nat) (T : List PV) (o : AOper) (st : PS) : Option (PS × Prop) :=
 match st with
 | ⟨L, O, hp, md, cnt⟩ => match pwanted T L o.g with
   | some true => (match isHeap o.op with
     | true => (match peff o.op (psev T L) hp with
       | some (v, hp', q) => force hp' fun hp' => force (pmod o.op (psev T L) ++ md) fun md' => fb (isEff o.op) fun e => some (⟨v :: L, false :: O, hp', md', bif e then cnt + 1 else cnt⟩, q)
       | none => none)
     | false => (match pval o.op (psev T L) hp with
       | some (v, q) => (match (bif dr then plOk l0 ⟨L, O, hp, md, cnt⟩ T o.lo o.op v else true) with
         | true => fb (bif dr then opO l0 ⟨L, O, hp, md, cnt⟩ T o.op else false) fun b => some (⟨v :: L, b :: O, hp, md, cnt⟩, q)
         | false => none)
       | none => none))
   | some false => fb (isEff o.op) fun e => some (⟨.s undef :: L, false :: O, hp, md, bif e then cnt + 1 else cnt⟩, True)
   | none => none
def pops (dr : Bool) (l0 : Nat) (T : List PV) : List AOper → PS → Option (PS × Prop)
 | [], ⟨L, O, hp, md, cnt⟩ => force L fun L => force O fun O => force hp fun hp => force md fun md => some (⟨L, O, hp, md, cnt⟩, True)
 | o :: r, st => match pstep dr l0 T o st with
   | some (st', q) => (match pops dr l0 T r st' with | some (st'', q') => some (st'', q ∧ q') | none => none)
   | none => none
def pback (T0 L : List PV) : List (Nat × Src) → List PV → Option (List PV)
 | [], T => force T some
 | (i, s) :: r, T => match psev T0 L s with
   | some v => pback T0 L r (T.set i v)
   | none => none
end Go.Proofs.Ytggaimcopbjdiaa.AM
namespace Go.Proofs.Ytggaimcopbjdiaa.AM
section
variable {V : Type → Type} [Vec V] {F F' : Nat → Prop} {ρ ρ' : PR} {H H' : AH V} {hp hp' : PH} {ds ds' : List Nat} {ev : Src → Option PV} {ea : Src → Option Value} {P : Program} {cl : Value → List Value → AH V → Option (Value × AH V)}
theorem PRel.s_inv {a w : Value} (h : PRel F ρ H (.s a) w) : w = a := by
 cases h with
 | fr h => cases h; rfl
theorem PRel.frz_inv {sz n k : Nat} {row : Nat → List PV} {w : Value} (h : PRel F ρ H (.frz sz n k row) w) : FRel F H (.frz sz n k row) w := by
 cases h with
 | fr h => exact h
theorem PRel.fptr_inv {sz k i o : Nat} {row : Nat → List PV} {w : Value} (h : PRel F ρ H (.fptr sz k row i o) w) : FRel F H (.fptr sz k row i o) w := by
 cases h with
 | fr h => exact h
theorem PRel.agg_inv {cs : List PV} {w : Value} (h : PRel F ρ H (.agg cs) w) : ∃ l, w = .agg l.toArray ∧ PRels F ρ H cs l := by
 cases h with
 | fr h => cases h
 | agg hl h => exact ⟨_, rfl, hl, h⟩
theorem PRel.tup_inv {cs : List PV} {w : Value} (h : PRel F ρ H (.tup cs) w) : ∃ l, w = .tuple l.toArray ∧ PRels F ρ H cs l := by
 cases h with
 | fr h => cases h
 | tup hl h => exact ⟨_, rfl, hl, h⟩
def HOk (F : Nat → Prop) (ρ : PR) (hp : PH) (H : AH V) : Prop := ∀ b B, hp[b]? = some B → BOk F ρ H b B
def EvOk (F : Nat → Prop) (ρ : PR) (H : AH V) (ev : Src → Option PV) (ea : Src → Option Value) : Prop := ∀ x v, ev x = some v → ∃ w, ea x = some w ∧ PRel F ρ H v w
def VOk (F : Nat → Prop) (ρ : PR) (H : AH V) (r : PVR) (s : Option Value) : Prop := ∀ v q, r = some (v, q) → q → ∃ w, s = some w ∧ PRel F ρ H v w
theorem VOk.no {s : Option Value} : VOk F ρ H none s := fun v q h => by cases h
theorem VOk.pv1 {v : PV} {s : Option Value} {w : Value} (hs : s = some w) (h : PRel F ρ H v w) : VOk F ρ H (pv1 v) s := fun v' q e hq => by
 cases e; exact ⟨w, hs, h⟩
theorem VOk.of {v : PV} {q : Prop} {s : Option Value} (h : q → ∃ w, s = some w ∧ PRel F ρ H v w) : VOk F ρ H (some (v, q)) s := fun v' q' e hq => by
 cases e; exact h hq
theorem VOk.ofV {r s : Option Value} (h : ∀ v, r = some v → s = some v) : VOk F ρ H (ofV r) s := fun v q e hq => by
 cases r with
 | none => cases e
 | some a => cases e; exact ⟨a, h a rfl, .fr (.s a)⟩
theorem in64_aw {n : Int} (h : in64 n) : aw .i64 n = n := aw64 h.1 h.2
theorem s_of {x : Src} {a : Value} (hev : EvOk F ρ H ev ea) (h : ev x = some (.s a)) : ea x = some a := by
 obtain ⟨w, h1, h2⟩ := hev x _ h
 rw [h1, h2.s_inv]
theorem s2_ok (hev : EvOk F ρ H ev ea) (f : Value → Value → Option Value) (x y : Src) : VOk F ρ H (ps2 f (ev x) (ev y)) (x2 f ea x y) := by
 unfold ps2
 split
 ·next a b e1 e2 =>
  refine VOk.ofV fun v hv => ?_
  simp only [x2, s_of hev e1, s_of hev e2, hv]
 ·exact .no
theorem s1_ok (hev : EvOk F ρ H ev ea) (f : Value → Option Value) (x : Src) : VOk F ρ H (ps1 f (ev x)) (x1 f ea x) := by
 unfold ps1
 split
 ·next a e1 =>
  refine VOk.ofV fun v hv => ?_
  simp only [x1, s_of hev e1, hv]
 ·exact .no
theorem bin_ok (hev : EvOk F ρ H ev ea) (op : BinOp) (x y : Src) : VOk F ρ H (pbin op (ev x) (ev y)) (x2 (abin op) ea x y) := by
 unfold pbin
 split
 ·next k a k' b e1 e2 =>
  have hs : x2 (abin op) ea x y = abinK op k k' a b := by simp only [x2, s_of hev e1, s_of hev e2, abin]
  rw [hs]
  unfold pbinI
  split
  ·refine VOk.of fun hq => ⟨_, ?_, .fr (.s _)⟩
   simp only [abinK, abinI, someInt, if_true, in64_aw hq]
  ·refine VOk.of fun hq => ⟨_, ?_, .fr (.s _)⟩
   simp only [abinK, abinI, someInt, if_true, in64_aw hq]
  ·refine VOk.of fun hq => ⟨_, ?_, .fr (.s _)⟩
   simp only [abinK, abinI, someInt, if_true, in64_aw hq]
  ·exact VOk.ofV fun v hv => hv
 ·exact .no
theorem conv_ok (hev : EvOk F ρ H ev ea) (k : IntKind) (x : Src) : VOk F ρ H (pconv k (ev x)) (x1 (fConv k) ea x) := by
 unfold pconv
 split
 ·next k' n e1 =>
  have hs : x1 (fConv k) ea x = some (.int k (aw k n)) := by simp only [x1, s_of hev e1, fConv]
  rw [hs]
  split
  ·refine VOk.of fun hq => ⟨_, rfl, ?_⟩
   rw [in64_aw hq]; exact .fr (.s _)
  ·exact VOk.of fun _ => ⟨_, rfl, .fr (.s _)⟩
 ·exact .no
theorem pick_ok (hev : EvOk F ρ H ev ea) (c a b : Src) : VOk F ρ H (ppick ev c a b) (xPick ea c a b) := by
 unfold ppick
 split
 ·next t e1 =>
  have hs : xPick ea c a b = ea (bif t then a else b) := by simp only [xPick, s_of hev e1]
  rw [hs]
  cases t with
  | true =>
    simp only [cond_true]
    split
    ·next v e2 => obtain ⟨w, h1, h2⟩ := hev _ _ e2; exact .pv1 h1 h2
    ·exact .no
  | false =>
    simp only [cond_false]
    split
    ·next v e2 => obtain ⟨w, h1, h2⟩ := hev _ _ e2; exact .pv1 h1 h2
    ·exact .no
 ·exact .no
theorem ptake_some : ∀ {n : Nat} {l r : List PV}, ptake n l = some r → r = l.take n ∧ n ≤ l.length
 | 0, l, r, h => by simp only [ptake, Option.some.injEq] at h; subst h; simp
 | n + 1, [], r, h => by simp [ptake] at h
 | n + 1, a :: l, r, h => by
   simp only [ptake] at h
   split at h
   ·next r' e =>
    obtain ⟨h1, h2⟩ := ptake_some e
    cases h
    subst h1
    exact ⟨by simp, by simpa using h2⟩
   ·cases h
theorem cells_ok {cs : List PV} {vs : List Value} (h : PRels F ρ H cs vs) (n : Option Nat) (off : Nat) {v : PV} (hv : pcells cs n off = some v) : ∃ w, acells vs n off = some w ∧ PRel F ρ H v w := by
 cases n with
 | none => exact h.get hv
 | some n =>
   cases n with
   | zero => cases hv
   | succ n =>
   simp only [pcells] at hv
   split at hv
   ·next l e =>
    obtain ⟨h1, h2⟩ := ptake_some e
    cases hv
    have h3 := (h.drop off).take (n + 1)
    rw [List.length_drop] at h2
    have hl := h.len
    refine ⟨_, ?_, .agg (h1 ▸ h3.len) (h1 ▸ h3.at')⟩
    simp only [acells]
    rw [if_pos (by omega)]
   ·cases hv
end
end Go.Proofs.Ytggaimcopbjdiaa.AM
namespace Go.Proofs.Ytggaimcopbjdiaa.AM
section
variable {V : Type → Type} [Vec V] {F F' : Nat → Prop} {ρ ρ' : PR} {H H' : AH V} {hp hp' : PH} {ds ds' : List Nat} {ev : Src → Option PV} {ea : Src → Option Value} {P : Program} {cl : Value → List Value → AH V → Option (Value × AH V)}
theorem sub_ok {cs : List PV} {blk : List Value} {base sz o : Nat} {n : Option Nat} {v : PV} (h : PRels F ρ H cs ((blk.drop base).take sz)) (hv : pcells cs n o = some v) : ∃ w, acells blk n (base + o) = some w ∧ PRel F ρ H v w := by
 obtain ⟨w, h1, h2⟩ := cells_ok h n o hv
 refine ⟨w, ?_, h2⟩
 cases n with
 | none =>
   simp only [acells, List.getElem?_take, List.getElem?_drop] at h1 ⊢
   split at h1
   ·exact h1
   ·cases h1
 | some n =>
   cases n with
   | zero => cases hv
   | succ n =>
     simp only [acells] at h1 ⊢
     split at h1
     ·next hl =>
      simp only [List.length_take, List.length_drop] at hl
      rw [if_pos (by omega), ← h1]
      congr 3
      rw [List.drop_take, List.take_take, List.drop_drop, Nat.min_eq_left (by omega)]
     ·cases h1
theorem rows_of {row : Nat → List PV} {blk : List Value} {off sz k i : Nat} (hi : i < k) (hl : off + k * sz ≤ blk.length) (hs : ∀ i, i < k → (row i).length = sz) (hc : ∀ (i j : Nat) (c : PV) (v : Value), i < k → (row i)[j]? = some c → blk[off + i * sz + j]? = some v → PRel F ρ H c v) : PRels F ρ H (row i) ((blk.drop (off + i * sz)).take sz) := by
 have h1 := hs i hi
 have h2 : i * sz + sz ≤ k * sz := by
  have := Nat.mul_le_mul_right sz (show i + 1 ≤ k by omega)
  rw [Nat.add_mul] at this; omega
 refine ⟨by rw [h1, List.length_take, List.length_drop]; omega, fun j c v q1 q2 => ?_⟩
 rw [List.getElem?_take] at q2
 split at q2
 ·rw [List.getElem?_drop] at q2
  exact hc i j c v hi q1 q2
 ·cases q2
theorem load_ok (hev : EvOk F ρ H ev ea) (hh : HOk F ρ hp H) (n : Option Nat) (a : Src) : VOk F ρ H (pload hp n (ev a)) (x1 (aload H n) ea a) := by
 unfold pload
 split
 ·next sz k row i off e1 =>
  obtain ⟨w, h1, h2⟩ := hev _ _ e1
  split
  ·next v e2 =>
   have h3 := h2.fptr_inv
   cases h3 with
   | fptr hF hg hi hl hs ho hc =>
     obtain ⟨w, q1, q2⟩ := sub_ok (rows_of (ρ := ρ) hi hl hs fun i j c v a1 a2 a3 => .fr (hc i j c v a1 a2 a3)) e2
     refine .pv1 ?_ q2
     simp only [x1, h1]
     exact aload_of hg q1
  ·exact .no
 ·next b off e1 =>
  obtain ⟨w, h1, h2⟩ := hev _ _ e1
  split
  ·next cs e2 =>
   obtain ⟨a', e, vs, r1, r2, r3, r4, r5⟩ := hh b _ e2
   split
   ·next v e3 =>
    obtain ⟨w', q1, q2⟩ := cells_ok r5 n off e3
    refine .pv1 ?_ q2
    cases h2 with
    | fr h => cases h
    | ptr h =>
      rw [r1] at h; cases h
      simp only [x1, h1]
      exact aload_of r3 q1
   ·exact .no
  ·exact .no
 ·next sz b i off e1 =>
  obtain ⟨w, h1, h2⟩ := hev _ _ e1
  split
  ·next sz' m f full e2 =>
   have hb := hh b _ e2
   split
   ·next v e3 =>
    refine .of fun hq => ?_
    obtain ⟨hi, rfl⟩ := hq
    rcases hb with ⟨_, h0⟩ | ⟨a', ce, vs, r1, r2, r3, r4, r5, r6, r7, r8, r9, r10⟩
    ·omega
    ·have hle : 0 + m * sz' ≤ vs.length := by
      rw [r8]
      have := Nat.mul_le_mul_right sz' r6
      omega
     obtain ⟨w', q1, q2⟩ := sub_ok (rows_of (off := 0) hi hle r9 fun i j c v a1 a2 a3 => .fr (r10 i j c v a1 a2 (by simpa using a3))) e3
     refine ⟨w', ?_, q2⟩
     cases h2 with
     | fr h => cases h
     | eptr h =>
       rw [r1] at h; cases h
       simp only [x1, h1]
       rw [Nat.zero_add] at q1
       exact aload_of r3 q1
   ·exact .no
  ·exact .no
 ·exact .no
theorem nat_of {i : Src} {j : Nat} (hev : EvOk F ρ H ev ea) (h : pnat (ev i) = some j) : ∃ k, ea i = some (.int k (j : Int)) := by
 unfold pnat at h
 split at h
 ·next k z e =>
  split at h
  ·next j' => cases h; exact ⟨k, s_of hev e⟩
  ·cases h
 ·cases h
theorem iaddr_ok (hev : EvOk F ρ H ev ea) (size : Nat) (x i : Src) : VOk F ρ H (piaddr hp size (ev x) (ev i)) (x2 (aindex size) ea x i) := by
 unfold piaddr
 split
 ·exact .no
 ·next j ej =>
  obtain ⟨k, hj⟩ := nat_of hev ej
  split
  ·next sz n k row e1 =>
   obtain ⟨w, h1, h2⟩ := hev _ _ e1
   cases hb : Nat.beq sz size with
   | false => exact .no
   | true =>
     refine .of fun hlt => ?_
     have hsz := Nat.eq_of_beq_eq_true hb
     subst hsz
     cases h2.frz_inv with
     | nil h => omega
     | @frz _ _ _ _ b off ce _ _ _ hF hg hn hk hl hs ho hc =>
       refine ⟨.pointer (some ⟨b, off + j * sz + 0, none⟩), ?_, .fr (.fptr hF hg (by omega) hl hs ho hc)⟩
       simp only [x2, h1, hj, aindex]
       rw [if_pos ⟨by omega, by omega⟩]
       simp [add_none]
  ·next sz b n e1 =>
   obtain ⟨w, h1, h2⟩ := hev _ _ e1
   cases hb : Nat.beq sz size with
   | false => exact .no
   | true =>
     refine .of fun hlt => ?_
     have hsz := Nat.eq_of_beq_eq_true hb
     subst hsz
     cases h2 with
     | fr h => cases h
     | vecz h h0 => omega
     | vec h hn =>
       refine ⟨_, ?_, .eptr h⟩
       simp only [x2, h1, hj, aindex]
       rw [if_pos ⟨by omega, by omega⟩]
       simp [add_none]
  ·next sz b i0 n e1 =>
   obtain ⟨w, h1, h2⟩ := hev _ _ e1
   cases hb : Nat.beq sz size with
   | false => exact .no
   | true =>
     refine .of fun hlt => ?_
     have hsz := Nat.eq_of_beq_eq_true hb
     subst hsz
     cases h2 with
     | fr h => cases h
     | subz h h0 => omega
     | sub h ho hl hn =>
       have ho' := ho.resolve_left (by omega)
       subst ho'
       refine ⟨_, ?_, .eptr h⟩
       simp only [x2, h1, hj, aindex]
       rw [if_pos ⟨by omega, by omega⟩]
       simp [add_none, Nat.add_mul]
  ·next sz b n e1 =>
   obtain ⟨w, h1, h2⟩ := hev _ _ e1
   cases hb : Nat.beq sz size with
   | false => exact .no
   | true =>
     refine .of fun hlt => ?_
     have hsz := Nat.eq_of_beq_eq_true hb
     subst hsz
     cases h2 with
     | fr h => cases h
     | exvz h hn => omega
     | exv h hn =>
       refine ⟨_, ?_, .eptr h⟩
       simp only [x2, h1, hj, aindex]
       rw [if_pos ⟨by omega, by omega⟩]
       simp [add_none]
  ·next sz n row e1 =>
   obtain ⟨w, h1, h2⟩ := hev _ _ e1
   cases hb : Nat.beq sz size with
   | false => exact .no
   | true =>
     refine .of fun hlt => ?_
     have hsz := Nat.eq_of_beq_eq_true hb
     subst hsz
     cases h2 with
     | fr h =>
       cases h with
       | fzxn => omega
       | @fzx _ _ _ b off _ _ _ hF hg hl hs ho hc =>
         refine ⟨.pointer (some ⟨b, off + j * sz + 0, none⟩), ?_, .fr (.fptr hF hg (by omega) hl hs ho hc)⟩
         simp only [x2, h1, hj, aindex]
         rw [if_pos ⟨by omega, by omega⟩]
         simp [add_none]
  ·next b i0 n e1 =>
   obtain ⟨w, h1, h2⟩ := hev _ _ e1
   cases hb : Nat.beq 1 size with
   | false => exact .no
   | true =>
     refine .of fun hlt => ?_
     have hsz := Nat.eq_of_beq_eq_true hb
     cases h2 with
     | fr h => cases h
     | que h =>
       refine ⟨_, ?_, .eptr h⟩
       simp only [x2, h1, hj, aindex]
       rw [if_pos ⟨⟨by omega, by omega⟩, hsz.symm⟩]
       simp
  ·exact .no
theorem iarr_ok (hev : EvOk F ρ H ev ea) (len size : Nat) (x i : Src) : VOk F ρ H (piarr len size (ev x) (ev i)) (x2 (aindexA len size) ea x i) := by
 unfold piarr
 split
 ·exact .no
 ·next j ej =>
  obtain ⟨k, hj⟩ := nat_of hev ej
  split
  ·next b off e1 =>
   obtain ⟨w, h1, h2⟩ := hev _ _ e1
   refine .of fun hlt => ?_
   cases h2 with
   | fr h => cases h
   | ptr h =>
     refine ⟨_, ?_, .ptr h⟩
     simp only [x2, h1, hj, aindexA]
     rw [if_pos ⟨by omega, by omega⟩]
     simp [add_none]
  ·next sz k row i0 off e1 =>
   obtain ⟨w, h1, h2⟩ := hev _ _ e1
   refine .of fun hlt => ?_
   cases h2.fptr_inv with
   | fptr hF hg hi hl hs ho hc =>
     refine ⟨_, ?_, .fr (.fptr hF hg hi hl hs ho hc)⟩
     simp only [x2, h1, hj, aindexA]
     rw [if_pos ⟨by omega, by omega⟩]
     simp [add_none, Nat.add_assoc]
  ·next sz b i0 off e1 =>
   obtain ⟨w, h1, h2⟩ := hev _ _ e1
   refine .of fun hlt => ?_
   cases h2 with
   | fr h => cases h
   | eptr h =>
     refine ⟨_, ?_, .eptr h⟩
     simp only [x2, h1, hj, aindexA]
     rw [if_pos ⟨by omega, by omega⟩]
     simp [add_none, Nat.add_assoc]
  ·exact .no
theorem faddr_ok (hev : EvOk F ρ H ev ea) (off : Nat) (x : Src) : VOk F ρ H (pfaddr off (ev x)) (x1 (fFaddr off) ea x) := by
 unfold pfaddr
 split
 ·next b o e1 =>
  obtain ⟨w, h1, h2⟩ := hev _ _ e1
  cases h2 with
  | fr h => cases h
  | ptr h => exact .pv1 (by simp only [x1, h1, fFaddr, add_none]) (.ptr h)
 ·next sz k row i o e1 =>
  obtain ⟨w, h1, h2⟩ := hev _ _ e1
  cases h2.fptr_inv with
  | fptr hF hg hi hl hs ho hc => exact .pv1 (by simp only [x1, h1, fFaddr, add_none, Nat.add_assoc]) (.fr (.fptr hF hg hi hl hs ho hc))
 ·next sz b i o e1 =>
  obtain ⟨w, h1, h2⟩ := hev _ _ e1
  cases h2 with
  | fr h => cases h
  | eptr h => exact .pv1 (by simp only [x1, h1, fFaddr, add_none, Nat.add_assoc]) (.eptr h)
 ·exact .no
theorem fld_ok (hev : EvOk F ρ H ev ea) (n : Option Nat) (off : Nat) (x : Src) : VOk F ρ H (pfld n off (ev x)) (x1 (fFld n off) ea x) := by
 unfold pfld
 split
 ·next cs e1 =>
  obtain ⟨w, h1, h2⟩ := hev _ _ e1
  obtain ⟨l, rfl, h3⟩ := h2.agg_inv
  split
  ·next v e2 =>
   obtain ⟨w, q1, q2⟩ := cells_ok h3 n off e2
   exact .pv1 (by simp only [x1, h1, fFld]; exact q1) q2
  ·exact .no
 ·exact .no
theorem ext_ok' (hev : EvOk F ρ H ev ea) (i : Nat) (x : Src) : VOk F ρ H (pext i (ev x)) (x1 (fExt i) ea x) := by
 unfold pext
 split
 ·next cs e1 =>
  obtain ⟨w, h1, h2⟩ := hev _ _ e1
  obtain ⟨l, rfl, h3⟩ := h2.tup_inv
  split
  ·next v e2 =>
   obtain ⟨w, q1, q2⟩ := h3.get e2
   exact .pv1 (by simp only [x1, h1, fExt]; exact q1) q2
  ·exact .no
 ·exact .no
theorem nilv.len {v : Value} (h : nilv v) : fLen v = some (.int .i64 (0 : Nat)) := by
 rcases h with rfl | ⟨b, o, s, ce, rfl⟩ <;> rfl
theorem len_ok (hev : EvOk F ρ H ev ea) (x : Src) : VOk F ρ H (plen (ev x)) (x1 fLen ea x) := by
 unfold plen
 split
 ·next sz n k row e1 =>
  obtain ⟨w, h1, h2⟩ := hev _ _ e1
  cases h2.frz_inv with
  | nil h => exact .pv1 (by simp only [x1, h1, h.len]) (.fr (.s _))
  | frz => exact .pv1 (by simp only [x1, h1, fLen]) (.fr (.s _))
 ·next sz b n e1 =>
  obtain ⟨w, h1, h2⟩ := hev _ _ e1
  cases h2 with
  | fr h => cases h
  | vecz h h0 => subst h0; exact .pv1 (by simp only [x1, h1, fLen]) (.fr (.s _))
  | vec h hn => exact .pv1 (by simp only [x1, h1, fLen]) (.fr (.s _))
 ·next sz b i n e1 =>
  obtain ⟨w, h1, h2⟩ := hev _ _ e1
  cases h2 with
  | fr h => cases h
  | subz h h0 => subst h0; exact .pv1 (by simp only [x1, h1, fLen]) (.fr (.s _))
  | sub => exact .pv1 (by simp only [x1, h1, fLen]) (.fr (.s _))
 ·next n c e1 => exact .pv1 (by simp only [x1, s_of hev e1, fLen]) (.fr (.s _))
 ·next sz b n e1 =>
  obtain ⟨w, h1, h2⟩ := hev _ _ e1
  cases h2 with
  | fr h => cases h
  | exv h hn => exact .pv1 (by simp only [x1, h1, fLen]) (.fr (.s _))
  | exvz h hn => subst hn; exact .pv1 (by simp only [x1, h1, fLen]) (.fr (.s _))
 ·next sz n row e1 =>
  obtain ⟨w, h1, h2⟩ := hev _ _ e1
  cases h2 with
  | fr h =>
    cases h with
    | fzxn => exact .pv1 (by simp only [x1, h1, fLen]) (.fr (.s _))
    | fzx => exact .pv1 (by simp only [x1, h1, fLen]) (.fr (.s _))
 ·next b i n e1 =>
  obtain ⟨w, h1, h2⟩ := hev _ _ e1
  cases h2 with
  | fr h => cases h
  | que h => exact .pv1 (by simp only [x1, h1, fLen]) (.fr (.s _))
 ·exact .no
theorem nilchk_ok (hev : EvOk F ρ H ev ea) (x : Src) : VOk F ρ H (pnilchk (ev x)) (x1 fNilchk ea x) := by
 unfold pnilchk
 split
 ·next b o e1 =>
  obtain ⟨w, h1, h2⟩ := hev _ _ e1
  cases h2 with
  | fr h => cases h
  | ptr h => exact .pv1 (by simp only [x1, h1, fNilchk]) (.ptr h)
 ·next sz k row i o e1 =>
  obtain ⟨w, h1, h2⟩ := hev _ _ e1
  cases h2.fptr_inv with
  | fptr hF hg hi hl hs ho hc => exact .pv1 (by simp only [x1, h1, fNilchk]) (.fr (.fptr hF hg hi hl hs ho hc))
 ·next sz b i o e1 =>
  obtain ⟨w, h1, h2⟩ := hev _ _ e1
  cases h2 with
  | fr h => cases h
  | eptr h => exact .pv1 (by simp only [x1, h1, fNilchk]) (.eptr h)
 ·next f a c e1 =>
  obtain ⟨w, h1, h2⟩ := hev _ _ e1
  cases h2 with
  | fr h => cases h
  | fn a1 a2 a3 a4 => exact .pv1 (by simp only [x1, h1, fNilchk]) (.fn a1 a2 a3 a4)
 ·exact .no
theorem eqn_ok (hev : EvOk F ρ H ev ea) (kd : Nat) (neg : Bool) (x y : Src) : VOk F ρ H (peqn kd neg (ev x) (ev y)) (x2 (fEqn kd neg) ea x y) := by
 unfold peqn
 split
 ·next e1 e2 =>
  obtain ⟨w, h1, h2⟩ := hev _ _ e1
  cases h2 with
  | fr h => cases h
  | ptr h => exact .pv1 (by simp only [x2, h1, s_of hev e2, fEqn, aeqn]; cases neg <;> rfl) (.fr (.s _))
 ·next e1 e2 =>
  obtain ⟨w, h1, h2⟩ := hev _ _ e1
  cases h2.fptr_inv with
  | fptr => exact .pv1 (by simp only [x2, h1, s_of hev e2, fEqn, aeqn]; cases neg <;> rfl) (.fr (.s _))
 ·next e1 e2 =>
  obtain ⟨w, h1, h2⟩ := hev _ _ e1
  cases h2 with
  | fr h => cases h
  | eptr h => exact .pv1 (by simp only [x2, h1, s_of hev e2, fEqn, aeqn]; cases neg <;> rfl) (.fr (.s _))
 ·next e1 e2 =>
  obtain ⟨w, h1, h2⟩ := hev _ _ e1
  cases h2 with
  | fr h => cases h
  | fn => exact .pv1 (by simp only [x2, h1, s_of hev e2, fEqn, aeqn]; cases neg <;> rfl) (.fr (.s _))
 ·next a b e1 e2 =>
  refine VOk.ofV fun v hv => ?_
  simp only [x2, s_of hev e1, s_of hev e2, hv]
 ·exact .no
theorem scut_ok (hev : EvOk F ρ H ev ea) (x : Src) (lo hi : Option Src) : VOk F ρ H (pscut (ev x) (lo.map ev) (hi.map ev)) (xScut ea x lo hi) := by
 unfold pscut
 split
 ·next v e1 e2 e3 =>
  simp only [Option.map_eq_none_iff] at e2 e3
  subst e2; subst e3
  exact VOk.ofV fun u hu => by simp only [xScut, s_of hev e1, xo, hu]
 ·next v l e1 e2 e3 =>
  simp only [Option.map_eq_none_iff, Option.map_eq_some_iff] at e2 e3
  obtain ⟨l', rfl, e2⟩ := e2
  subst e3
  exact VOk.ofV fun u hu => by simp only [xScut, s_of hev e1, s_of hev e2, xo, hu]
 ·next v h e1 e2 e3 =>
  simp only [Option.map_eq_none_iff, Option.map_eq_some_iff] at e2 e3
  obtain ⟨h', rfl, e3⟩ := e3
  subst e2
  exact VOk.ofV fun u hu => by simp only [xScut, s_of hev e1, s_of hev e3, xo, hu]
 ·next v l h e1 e2 e3 =>
  simp only [Option.map_eq_some_iff] at e2 e3
  obtain ⟨l', rfl, e2⟩ := e2
  obtain ⟨h', rfl, e3⟩ := e3
  exact VOk.ofV fun u hu => by simp only [xScut, s_of hev e1, s_of hev e2, s_of hev e3, xo, hu]
 ·exact .no
theorem evs_ok (hev : EvOk F ρ H ev ea) : ∀ {l : List Src} {vs : List PV}, pevs ev l = some vs → ∃ ws, evs ea l = some ws ∧ PRels F ρ H vs ws
 | [], vs, h => by simp only [pevs, Option.some.injEq] at h; subst h; exact ⟨[], rfl, .nil⟩
 | x :: r, vs, h => by
   simp only [pevs] at h
   split at h
   ·next v e =>
    split at h
    ·next vs' e' =>
     cases h
     obtain ⟨w, h1, h2⟩ := hev _ _ e
     obtain ⟨ws, h3, h4⟩ := evs_ok hev e'
     exact ⟨w :: ws, by simp only [evs, h1, h3], .cons h2 h4⟩
    ·cases h
   ·cases h
theorem mkfn_ok (hev : EvOk F ρ H ev ea) (f : FuncId) (a c : List Src) : VOk F ρ H (match pevs ev a, pevs ev c with | some a, some c => pv1 (.fn f a c) | _, _ => none) (xMkfn ea f a c) := by
 split
 ·next a' c' e1 e2 =>
  obtain ⟨ws, h1, h2⟩ := evs_ok hev e1
  obtain ⟨us, h3, h4⟩ := evs_ok hev e2
  exact .pv1 (by simp only [xMkfn, h1, h3]) (.fn h2.len h2.at' h4.len h4.at')
 ·exact .no
end
end Go.Proofs.Ytggaimcopbjdiaa.AM
namespace Go.Proofs.Ytggaimcopbjdiaa.AM
section
variable {V : Type → Type} [Vec V] {F F' : Nat → Prop} {ρ ρ' : PR} {H H' : AH V} {hp hp' : PH} {ds ds' : List Nat} {ev : Src → Option PV} {ea : Src → Option Value} {P : Program} {cl : Value → List Value → AH V → Option (Value × AH V)}
def isNat (o : Option Value) (d h : Nat) : Prop := (o = none ∧ h = d) ∨ ∃ k, o = some (.int k (h : Int))
theorem isNat.aopt {o : Option Value} {d h m : Nat} (hn : isNat o d h) (hm : h ≤ m) : aoptb o d m = some h := by
 rcases hn with ⟨rfl, rfl⟩ | ⟨k, rfl⟩
 ·rfl
 ·simp only [aoptb, abound]
  rw [if_pos ⟨by omega, by omega⟩]; simp
theorem bnd_of {hi : Option Src} {d h : Nat} (hev : EvOk F ρ H ev ea) (e : pbnd (hi.map ev) d = some h) : ∃ o, xo ea hi = some o ∧ isNat o d h := by
 cases hi with
 | none => simp only [pbnd, Option.map_none, Option.some.injEq] at e; subst e; exact ⟨none, rfl, .inl ⟨rfl, rfl⟩⟩
 | some x =>
   obtain ⟨k, hk⟩ := nat_of hev (show pnat (ev x) = some h from e)
   exact ⟨some (.int k (h : Int)), by simp only [xo, hk], .inr ⟨k, rfl⟩⟩
theorem rowk {row : Nat → List PV} {blk : List Value} {off sz k l : Nat} (hc : ∀ (i j : Nat) (c : PV) (v : Value), i < k → (row i)[j]? = some c → blk[off + i * sz + j]? = some v → FRel F H c v) (hlk : l ≤ k) :
  ∀ (i j : Nat) (c : PV) (v : Value), i < k - l → (row (l + i))[j]? = some c → blk[off + l * sz + i * sz + j]? = some v → FRel F H c v := fun i j c v h1 h2 h3 => hc (l + i) j c v (by omega) h2 (by rw [Nat.add_mul, ← Nat.add_assoc]; exact h3)
theorem cutS {size n ce m h l : Nat} {a : Addr} {lo hi mx : Option Value} (hn : n ≤ ce / 2) (h1 : isNat lo 0 l) (h2 : isNat hi n h) (h3 : isNat mx (ce / 2) m) (hl : l ≤ h) (hh : h ≤ m) (hm : m ≤ ce / 2) (h4 : mx.isSome = true → hi.isSome = true) :
  asliceV size (.slice (some a) n ce) lo hi mx = acut size a m h l (if mx.isSome then 1 else ce % 2) := by
 have e4 : (mx.isSome && hi.isNone) = false := by
  cases hi with
  | none => cases mx with
    | none => rfl
    | some m => simp at h4
  | some x => simp
 have hlt : ¬ ce / 2 < n := by omega
 simp only [asliceV, asliceS, e4, hlt, decide_false, Bool.or_false, Bool.false_eq_true, if_false, h3.aopt hm, h2.aopt hh, h1.aopt hl]
theorem nil_cut {v : Value} (h : nilv v) (size : Nat) {lo hi mx : Option Value} (h1 : isNat lo 0 0) (h2 : isNat hi 0 0) (h3 : mx = none ∨ ∃ k, mx = some (.int k 0)) (h4 : mx.isSome = true → hi.isSome = true) : ∃ v', asliceV size v lo hi mx = some v' ∧ nilv v' := by
 have e0 : ∀ m, aoptb lo 0 m = some 0 := fun m => h1.aopt (Nat.zero_le _)
 have e1 : ∀ m, aoptb hi 0 m = some 0 := fun m => h2.aopt (Nat.zero_le _)
 have e4 : (mx.isSome && hi.isNone) = false := by
  cases hi with
  | none => cases mx with
    | none => rfl
    | some m => simp at h4
  | some x => simp
 rcases h with rfl | ⟨b, o, s, ce, rfl⟩
 ·refine ⟨.slice none 0 0, ?_, .inl rfl⟩
  have e5 : ∃ m, aoptb mx (0 / 2) (0 / 2) = some m := by
   rcases h3 with rfl | ⟨k, rfl⟩
   ·exact ⟨_, rfl⟩
   ·exact ⟨0, rfl⟩
  obtain ⟨m, e5⟩ := e5
  have e6 : ¬ (0 / 2 : Nat) < 0 := by omega
  simp only [asliceV, asliceS, e4, e0, e1, e5, e6, decide_false, Bool.or_false, Bool.false_eq_true, if_false, and_self, if_true]
 ·rcases h3 with rfl | ⟨k, rfl⟩
  ·rw [cutS (n := 0) (h := 0) (l := 0) (m := ce / 2) (Nat.zero_le _) h1 h2 (.inl ⟨rfl, rfl⟩) (Nat.zero_le _) (Nat.zero_le _) (Nat.le_refl _) h4]
   unfold acut
   by_cases hm : ce / 2 = 0
   ·rw [if_pos hm]
    by_cases he : (if (none : Option Value).isSome = true then 1 else ce % 2) = 1
    ·rw [if_pos he]; exact ⟨_, rfl, .inr ⟨_, _, _, _, rfl⟩⟩
    ·rw [if_neg he, if_pos rfl]; exact ⟨_, rfl, .inr ⟨_, _, _, _, rfl⟩⟩
   ·rw [if_neg hm]
    refine ⟨_, rfl, .inr ⟨b, o, s, 2 * (ce / 2 - 0) + (if (none : Option Value).isSome = true then 1 else ce % 2), ?_⟩⟩
    simp [Addr.add]
  ·have := cutS (size := size) (a := ⟨b, o, some s⟩) (ce := ce) (mx := some (.int k 0)) (n := 0) (h := 0) (l := 0) (m := 0) (Nat.zero_le _) h1 h2 (.inr ⟨k, rfl⟩) (Nat.zero_le _) (Nat.zero_le _) (Nat.zero_le _) h4
   rw [this]
   unfold acut
   rw [if_pos rfl, if_pos rfl]
   exact ⟨_, rfl, .inr ⟨_, _, _, _, rfl⟩⟩
theorem acut_frz {sz k b off m h l e : Nat} {row : Nat → List PV} {blk : List Value} {w : Bool} {lo : Nat} (hF : F b) (hg : Vec.get H b = some (.arr blk w lo)) (hk : k ≤ m) (hl : off + k * sz ≤ blk.length)
  (hs : ∀ i, i < k → (row i).length = sz) (ho : ∀ v, v ∈ blk → oneCell v = true) (hc : ∀ (i j : Nat) (c : PV) (v : Value), i < k → (row i)[j]? = some c → blk[off + i * sz + j]? = some v → FRel F H c v)
  (hlh : l ≤ h) (hhk : h ≤ k) (he : e = 0 ∨ e = 1) : ∃ w, acut sz ⟨b, off, none⟩ m h l e = some w ∧ FRel F H (.frz sz (h - l) (k - l) (fun j => row (l + j))) w := by
 unfold acut
 by_cases hm : m = l
 ·rw [if_pos hm]
  have e7 : h - l = 0 := by omega
  have e8 : k - l = 0 := by omega
  have e9 : h = l := by omega
  rw [e7, e8]
  by_cases he : e = 1
  ·rw [if_pos he]
   exact ⟨_, rfl, .frz hF hg (Nat.le_refl _) (Nat.zero_le _) (by omega) (fun i hi => by omega) ho (fun i j c v hi => by omega)⟩
  ·rw [if_neg he, if_pos e9]
   exact ⟨_, rfl, .frz hF hg (Nat.le_refl _) (Nat.zero_le _) (by omega) (fun i hi => by omega) ho (fun i j c v hi => by omega)⟩
 ·rw [if_neg hm]
  refine ⟨_, rfl, ?_⟩
  rw [add_none]
  have hkl' : l * sz + (k - l) * sz = k * sz := by
   rw [← Nat.add_mul]; congr 1; omega
  exact .frz hF hg (by omega) (by omega) (by omega) (fun i hi => hs (l + i) (by omega)) ho (rowk hc (by omega))
theorem cutN {size : Nat} {oh : Option Value} (h : isNat oh 0 0) : asliceV size (.slice none 0 0) none oh none = some (.slice none 0 0) := by
 rcases h with ⟨rfl, _⟩ | ⟨k, rfl⟩
 ·rfl
 ·rfl
theorem frz0 {sz n k : Nat} {row : Nat → List PV} {w : Value} (h : FRel F H (.frz sz n k fun j => row (0 + j)) w) : FRel F H (.frz sz n k row) w := by
 have : (fun j => row (0 + j)) = row := by funext j; rw [Nat.zero_add]
 rwa [this] at h
theorem slice_ok (hev : EvOk F ρ H ev ea) (size : Nat) (x : Src) (lo hi mx : Option Src) : VOk F ρ H (pslice size (ev x) (lo.map ev) (hi.map ev) (mx.map ev)) (xCut (asliceV size) ea x lo hi mx) := by
 unfold pslice
 split
 ·next sz n k row e1 =>
  obtain ⟨w, h1, h2⟩ := hev _ _ e1
  cases hb : Nat.beq sz size with
  | false => exact .no
  | true =>
  have hsz := Nat.eq_of_beq_eq_true hb
  subst hsz
  simp only [cond_true]
  have F2 := h2.frz_inv
  cases mx with
  | none =>
    simp only [Option.map_none]
    have hx : ∀ {lo' : Option Src} {l' h' : Nat} {ol oh : Option Value}, xo ea lo' = some ol → xo ea hi = some oh → isNat ol 0 l' → isNat oh n h' → l' ≤ h' → h' ≤ k → ∃ w', xCut (asliceV sz) ea x lo' hi none = some w' ∧ FRel F H (.frz sz (h' - l') (k - l') fun j => row (l' + j)) w' := by
     intro lo' l' h' ol oh q1 q2 q3 q4 q5 q6
     have hxc : xCut (asliceV sz) ea x lo' hi none = asliceV sz w ol oh none := by simp only [xCut, h1, q1, q2]; rfl
     rw [hxc]
     cases F2 with
     | nil hn =>
       have a0 : h' = 0 := by omega
       have b0 : l' = 0 := by omega
       subst a0; subst b0
       obtain ⟨v', r1, r2⟩ := nil_cut hn sz q3 q4 (.inl rfl) (fun h => by cases h)
       exact ⟨v', r1, .nil r2⟩
     | @frz _ _ _ _ b off ce _ _ _ hF hg hn hk hl hs ho' hc =>
       rw [cutS (show n ≤ ce / 2 by omega) q3 q4 (.inl ⟨rfl, rfl⟩) q5 (by omega) (Nat.le_refl _) (fun h => by cases h)]
       exact acut_frz hF hg hk hl hs ho' hc q5 q6 (by simp only [Option.isSome_none, Bool.false_eq_true, if_false]; omega)
    cases lo with
    | none =>
      simp only [Option.map_none]
      split
      ·next h e4 e5 =>
       obtain ⟨oh, r1, r2⟩ := bnd_of hev e4
       refine .of fun hq => ?_
       obtain ⟨w', a1, a2⟩ := hx (lo' := none) rfl r1 (.inl ⟨rfl, rfl⟩) r2 (Nat.zero_le _) hq
       exact ⟨w', a1, .fr (frz0 a2)⟩
      ·next e5 => cases e5
      ·exact .no
    | some l0 =>
      simp only [Option.map_some]
      split
      ·next e5 => cases e5
      ·next h l e4 e5 =>
       cases e5
       split
       ·next l e6 =>
        obtain ⟨oh, r1, r2⟩ := bnd_of hev e4
        obtain ⟨kl, hkl⟩ := nat_of hev e6
        refine .of fun hq => ?_
        obtain ⟨w', a1, a2⟩ := hx (lo' := some l0) (ol := some (.int kl (l : Int))) (by simp only [xo, hkl]) r1 (.inr ⟨_, rfl⟩) r2 hq.1 hq.2
        exact ⟨w', a1, .fr a2⟩
       ·exact .no
      ·exact .no
  | some m0 =>
    cases hi with
    | none => exact .no
    | some h0 =>
    cases lo with
    | some l0 =>
      simp only [Option.map_some]
      split
      ·next e5 => cases e5
      ·exact .no
    | none =>
    simp only [Option.map_some, Option.map_none]
    split
    ·next m h e4 e5 e6 =>
     obtain ⟨km, hkm⟩ := nat_of hev e4
     obtain ⟨kh, hkh⟩ := nat_of hev e5
     refine .of fun hq => ?_
     have hxc : xCut (asliceV sz) ea x none (some h0) (some m0) = asliceV sz w none (some (.int kh (h : Int))) (some (.int km (m : Int))) := by simp only [xCut, h1, xo, hkm, hkh]
     rw [hxc]
     cases F2 with
     | nil hn =>
       have a0 : h = 0 := by omega
       have b0 : m = 0 := by omega
       subst a0; subst b0
       obtain ⟨v', r1, r2⟩ := nil_cut hn sz (lo := none) (hi := some (.int kh ((0 : Nat) : Int))) (mx := some (.int km 0)) (.inl ⟨rfl, rfl⟩) (.inr ⟨_, rfl⟩) (.inr ⟨_, rfl⟩) (fun h => rfl)
       exact ⟨v', r1, .fr (.nil r2)⟩
     | @frz _ _ _ _ b off ce _ _ _ hF hg hn hk hl hs ho' hc =>
       rw [cutS (l := 0) (show n ≤ ce / 2 by omega) (.inl ⟨rfl, rfl⟩) (.inr ⟨_, rfl⟩) (.inr ⟨_, rfl⟩) (Nat.zero_le _) hq.1 (by omega) (fun h => rfl)]
       have hms : m * sz ≤ k * sz := Nat.mul_le_mul_right _ hq.2
       obtain ⟨w', a1, a2⟩ := acut_frz (m := m) (h := h) (l := 0) (e := 1) (k := m) (row := row) hF hg (Nat.le_refl _) (by omega) (fun i hi => hs i (by omega)) ho' (fun i j c v hi => hc i j c v (by omega)) (Nat.zero_le _) hq.1 (.inr rfl)
       exact ⟨w', a1, .fr (frz0 a2)⟩
    ·exact .no
 ·next sz b n e1 =>
  obtain ⟨w, h1, h2⟩ := hev _ _ e1
  cases mx with
  | some m0 =>
    simp only [Option.map_some]
    exact .no
  | none =>
  simp only [Option.map_none]
  cases lo with
  | none =>
    simp only [Option.map_none]
    split
    ·next h e4 =>
     obtain ⟨oh, r1, r2⟩ := bnd_of hev e4
     refine .of fun hq => ?_
     have hxc : xCut (asliceV size) ea x none hi none = asliceV size w none oh none := by simp only [xCut, h1, r1]; rfl
     rw [hxc]
     cases h2 with
     | fr h => cases h
     | vecz hr h0 =>
       subst h0
       have : h = 0 := by omega
       subst this
       refine ⟨.slice none 0 0, ?_, .vecz hr rfl⟩
       exact cutN r2
     | @vec _ _ _ a ce hr hn =>
       rw [cutS (l := 0) hn (.inl ⟨rfl, rfl⟩) r2 (.inl ⟨rfl, rfl⟩) (Nat.zero_le _) (by omega) (Nat.le_refl _) (fun h => by cases h)]
       refine ⟨.slice (some ⟨a, 0, none⟩) h ce, ?_, .vec hr (by omega)⟩
       simp only [acut, Option.isSome_none, Bool.false_eq_true, if_false, Nat.sub_zero, Nat.zero_mul, add_none]
       by_cases hm : ce / 2 = 0
       ·rw [if_pos hm]
        have : h = 0 := by omega
        subst this
        have : ce = 0 ∨ ce = 1 := by omega
        rcases this with rfl | rfl <;> simp
       ·rw [if_neg hm]
        have : 2 * (ce / 2) + ce % 2 = ce := by omega
        rw [this]
    ·exact .no
  | some l0 =>
    simp only [Option.map_some]
    split
    ·next h l e4 e5 =>
     obtain ⟨oh, r1, r2⟩ := bnd_of hev e4
     obtain ⟨kl, hkl⟩ := nat_of hev e5
     refine .of fun hq => ?_
     obtain ⟨hz, rfl, hl, hh⟩ := hq
     have hxc : xCut (asliceV sz) ea x (some l0) hi none = asliceV sz w (some (.int kl (l : Int))) oh none := by simp only [xCut, h1, r1, show xo ea (some l0) = some (some (.int kl (l : Int))) by simp only [xo, hkl]]; rfl
     rw [hxc]
     cases h2 with
     | fr h => cases h
     | vecz hr h0 =>
       subst h0
       have : h = 0 := by omega
       subst this
       have : l = 0 := by omega
       subst this
       refine ⟨.slice none 0 0, ?_, .subz hr (by omega)⟩
       obtain ⟨v', a1, a2⟩ := nil_cut (.inl rfl) sz (lo := some (.int kl ((0 : Nat) : Int))) (hi := oh) (mx := none) (.inr ⟨_, rfl⟩) r2 (.inl rfl) (fun h => by cases h)
       rw [a1]
       simp only [asliceV, asliceS] at a1
       simp at a1
       split at a1
       ·cases a1
       ·split at a1
        ·cases a1
        ·exact a1.symm
     | @vec _ _ _ a ce hr hn =>
       rw [cutS hn (.inr ⟨_, rfl⟩) r2 (.inl ⟨rfl, rfl⟩) hl (by omega) (Nat.le_refl _) (fun h => by cases h)]
       simp only [acut, Option.isSome_none, Bool.false_eq_true, if_false, add_none, Nat.zero_add]
       by_cases hm : ce / 2 = l
       ·rw [if_pos hm]
        have e7 : h - l = 0 := by omega
        rw [e7]
        by_cases he : ce % 2 = 1
        ·rw [if_pos he]
         exact ⟨_, rfl, .sub hr (.inl rfl) (Nat.zero_le _) (by omega)⟩
        ·rw [if_neg he, if_pos (by omega)]
         exact ⟨_, rfl, .sub hr (.inl rfl) (Nat.zero_le _) (by omega)⟩
       ·rw [if_neg hm]
        exact ⟨_, rfl, .sub hr (.inr rfl) (Nat.mul_le_mul_right _ (by omega)) (by omega)⟩
    ·exact .no
 ·next e1 =>
  have h1 := s_of hev e1
  cases mx with
  | some m0 => exact .no
  | none =>
  cases lo with
  | some l0 => exact .no
  | none =>
  simp only [Option.map_none]
  split
  ·next h e4 e5 e6 =>
   obtain ⟨oh, r1, r2⟩ := bnd_of hev e6
   refine .of fun hq => ?_
   subst hq
   refine ⟨.slice none 0 0, ?_, .fr (.s _)⟩
   have hxc : xCut (asliceV size) ea x none hi none = asliceV size (.slice none 0 0) none oh none := by simp only [xCut, h1, r1]; rfl
   rw [hxc]
   exact cutN r2
  ·exact .no
 ·exact .no
theorem slarr_ok (hev : EvOk F ρ H ev ea) (len size : Nat) (x : Src) (lo hi mx : Option Src) : VOk F ρ H (pslarr len size (ev x) (lo.map ev) (hi.map ev) (mx.map ev)) (xCut (aslarr len size) ea x lo hi mx) := by
 unfold pslarr
 split
 ·next sz k row e1 =>
  obtain ⟨w, h1, h2⟩ := hev _ _ e1
  cases lo with
  | some l0 => exact .no
  | none =>
  cases mx with
  | some m0 => exact .no
  | none =>
  simp only [Option.map_none]
  split
  ·next h e4 e5 e6 =>
   cases hb : Nat.beq sz size with
   | false => exact .no
   | true =>
   have hsz := Nat.eq_of_beq_eq_true hb
   subst hsz
   obtain ⟨oh, r1, r2⟩ := bnd_of hev e6
   refine .of fun hq => ?_
   have hxc : xCut (aslarr len sz) ea x none hi none = aslarr len sz w none oh none := by simp only [xCut, h1, r1]; rfl
   rw [hxc]
   cases h2.fptr_inv with
   | @fptr _ _ _ _ _ b off _ _ _ hF hg hi hl hs ho hc =>
     have hms : len * sz ≤ k * sz := Nat.mul_le_mul_right _ hq.2
     have key : aslarr len sz (.pointer (some ⟨b, off + 0 * sz + 0, none⟩)) none oh none = some (.slice (some ⟨b, off, none⟩) h (2 * len + 1)) := by
      simp only [aslarr, Option.isSome_none, Bool.false_and, Bool.false_eq_true, if_false, aoptb, Nat.zero_mul, Nat.add_zero]
      have := r2.aopt (m := len) hq.1
      simp only [aoptb] at this
      rw [this]
      simp only [Nat.sub_zero, Nat.zero_mul, add_none, Nat.add_zero, ite_self]
     exact ⟨_, key, .fr (.frz hF hg hq.1 (by omega) (by omega) (fun i hi => hs i (by omega)) ho (fun i j c v hi => hc i j c v (by omega)))⟩
  ·exact .no
 ·exact .no
theorem nilv.one {v : Value} (h : nilv v) : oneCell v = true := by
 rcases h with rfl | ⟨b, o, s, ce, rfl⟩ <;> rfl
theorem okc_one {v : PV} {w : Value} (h : PRel F ρ H v w) (hv : okc v = true) : oneCell w = true := by
 cases h with
 | fr h =>
   cases h with
   | junk => cases hv
   | s => exact hv
   | nil h => exact h.one
   | frz => rfl
   | fptr => rfl
   | fzxn => rfl
   | fzx => rfl
 | ptr => rfl
 | eptr => rfl
 | vec => rfl
 | vecz => rfl
 | sub => rfl
 | exv => rfl
 | exvz => rfl
 | tbv => rfl
 | que => rfl
 | subz => rfl
 | yld => rfl
 | agg => cases hv
 | tup => cases hv
 | fn => rfl
theorem one_cells {w : Value} (h : oneCell w = true) : w.cells.toList = [w] := by
 cases w <;> first | rfl | cases h
theorem pcs_ok {v : PV} {w : Value} (h : PRel F ρ H v w) (hv : (pcs v).all okc = true) : PRels F ρ H (pcs v) w.cells.toList ∧ ∀ u, u ∈ w.cells.toList → oneCell u = true := by
 have hone : ∀ (l : List PV) (l' : List Value), PRels F ρ H l l' → l.all okc = true → ∀ u, u ∈ l' → oneCell u = true := fun l l' hl ha u hu => by
  obtain ⟨j, hj, rfl⟩ := List.mem_iff_getElem.1 hu
  have hj' : j < l.length := by rw [hl.len]; exact hj
  exact okc_one (hl.at' j l[j] _ (List.getElem?_eq_getElem hj') (List.getElem?_eq_getElem hj)) (List.all_eq_true.1 ha _ (List.getElem_mem hj'))
 by_cases hg : ∃ cs, v = .agg cs
 ·obtain ⟨cs, rfl⟩ := hg
  obtain ⟨l, rfl, hl⟩ := h.agg_inv
  exact ⟨hl, hone cs l hl hv⟩
 ·have hp : pcs v = [v] := by
   unfold pcs
   split
   ·next cs => exact absurd ⟨cs, rfl⟩ hg
   ·rfl
  rw [hp] at hv ⊢
  simp only [List.all_cons, List.all_nil, Bool.and_true] at hv
  have := okc_one h hv
  rw [one_cells this]
  exact ⟨.cons h .nil, fun u hu => by simp at hu; subst hu; exact this⟩
theorem splice_ok : ∀ {r : List PV} {r' : List Value} {cs : List PV} {l : List Value} {off : Nat}, PRels F ρ H cs l → PRels F ρ H r r' → PRels F ρ H (psplice cs off r) (splice l off r')
 | [], r', cs, l, off, h, hr => by
   have : r' = [] := List.eq_nil_of_length_eq_zero (by rw [← hr.len]; rfl)
   subst this
   exact h
 | v :: r, [], cs, l, off, h, hr => by have := hr.len; simp at this
 | v :: r, w :: r', cs, l, off, h, hr => by
   simp only [psplice, splice]
   exact splice_ok (h.set (hr.at' 0 v w rfl rfl)) ⟨by have := hr.len; simpa using this, fun j c u q1 q2 => hr.at' (j + 1) c u (by simpa using q1) (by simpa using q2)⟩
theorem psplice_length : ∀ (r cs : List PV) (off : Nat), (psplice cs off r).length = cs.length
 | [], cs, off => rfl
 | v :: r, cs, off => by simp only [psplice]; rw [psplice_length r]; simp
theorem splice_one : ∀ {r l : List Value} {off : Nat}, (∀ u, u ∈ l → oneCell u = true) → (∀ u, u ∈ r → oneCell u = true) → ∀ u, u ∈ splice l off r → oneCell u = true
 | [], l, off, h, hr => h
 | v :: r, l, off, h, hr => by
   simp only [splice]
   refine splice_one (fun u hu => ?_) (fun u hu => hr u (List.mem_cons_of_mem _ hu))
   rcases List.mem_or_eq_of_mem_set hu with q | rfl
   ·exact h u q
   ·exact hr u (List.mem_cons_self ..)
inductive PParts (F : Nat → Prop) (ρ : PR) (H : AH V) : List (Nat × Nat × PV) → List (Nat × Nat × Value) → Prop
 | nil : PParts F ρ H [] []
 | cons {o s : Nat} {v : PV} {w : Value} {l : List (Nat × Nat × PV)} {m : List (Nat × Nat × Value)} (h : PRel F ρ H v w) (t : PParts F ρ H l m) : PParts F ρ H ((o, s, v) :: l) ((o, s, w) :: m)
theorem parts_ok (hev : EvOk F ρ H ev ea) : ∀ {ps : List (Nat × Nat × Src)} {l : List (Nat × Nat × PV)}, pparts ev ps = some l → ∃ m, xParts ea ps = some m ∧ PParts F ρ H l m
 | [], l, h => by simp only [pparts, Option.some.injEq] at h; subst h; exact ⟨[], rfl, .nil⟩
 | (o, s, x) :: r, l, h => by
   simp only [pparts] at h
   split at h
   ·next v e =>
    split at h
    ·next vs e' =>
     cases h
     obtain ⟨w, h1, h2⟩ := hev _ _ e
     obtain ⟨m, h3, h4⟩ := parts_ok hev e'
     exact ⟨_, by simp only [xParts, h1, h3], .cons h2 h4⟩
    ·cases h
   ·cases h
theorem fill_ok : ∀ {l : List (Nat × Nat × PV)} {m : List (Nat × Nat × Value)} {cs c : List PV} {vs : List Value}, PParts F ρ H l m → PRels F ρ H cs vs → pfill cs l = some c → ∃ us, afill vs m = some us ∧ PRels F ρ H c us ∧ ((∀ u, u ∈ vs → oneCell u = true) → ∀ u, u ∈ us → oneCell u = true)
 | [], m, cs, c, vs, hp, h, hc => by
   cases hp
   simp only [pfill, Option.some.injEq] at hc
   subst hc
   exact ⟨vs, rfl, h, fun h => h⟩
 | (o, s, v) :: l, m, cs, c, vs, hp, h, hc => by
   cases hp with
   | cons hv ht =>
     next w m =>
     simp only [pfill] at hc
     cases hb : ((pcs v).all okc && (Nat.beq (pcs v).length s && Nat.ble (o + s) cs.length)) with
     | false => rw [hb] at hc; cases hc
     | true =>
       rw [hb] at hc
       simp only [cond_true] at hc
       simp only [Bool.and_eq_true, Nat.beq_eq, Nat.ble_eq] at hb
       obtain ⟨b1, b2, b3⟩ := hb
       obtain ⟨q1, q2⟩ := pcs_ok hv b1
       obtain ⟨us, r1, r2, r3⟩ := fill_ok ht (splice_ok (V := V) (off := o) h q1) hc
       refine ⟨us, ?_, r2, fun hone => r3 (splice_one hone q2)⟩
       simp only [afill]
       rw [if_pos ⟨by rw [← q1.len]; exact b2, by rw [← h.len]; exact b3⟩]
       exact r1
theorem rels_s (cs : List Value) : PRels F ρ H (cs.map .s) cs := ⟨by simp, fun j c v h1 h2 => by
 rw [List.getElem?_map, h2] at h1
 cases h1
 exact .fr (.s _)⟩
theorem build_ok (hev : EvOk F ρ H ev ea) (cs : List Value) (ps : List (Nat × Nat × Src)) : VOk F ρ H (match pparts ev ps with | some l => (match pfill (cs.map .s) l with | some c => pv1 (.agg c) | none => none) | none => none) (xBuild ea cs ps) := by
 split
 ·next l e =>
  obtain ⟨m, h1, h2⟩ := parts_ok hev e
  split
  ·next c e2 =>
   obtain ⟨us, r1, r2, _⟩ := fill_ok h2 (rels_s cs) e2
   exact .pv1 (by simp only [xBuild, h1, r1]) (.agg r2.len r2.at')
  ·exact .no
 ·exact .no
theorem val_ok (hev : EvOk F ρ H ev ea) (hh : HOk F ρ hp H) {op : AOp Src} {v : PV} {q : Prop} (h : pval op ev hp = some (v, q)) (hq : q) : ∃ w, aexec P cl op ea H = some (w, H) ∧ PRel F ρ H v w := by
 have fin : ∀ {s : Option Value}, VOk F ρ H (pval op ev hp) s → aexec P cl op ea H = withH H s → ∃ w, aexec P cl op ea H = some (w, H) ∧ PRel F ρ H v w := fun hv he => by
  obtain ⟨w, r1, r2⟩ := hv v q h hq
  exact ⟨w, by rw [he, r1]; rfl, r2⟩
 cases op with
 | mov x =>
   refine fin (s := ea x) ?_ rfl
   simp only [pval]
   split
   ·next v e => obtain ⟨w, r1, r2⟩ := hev _ _ e; exact .pv1 r1 r2
   ·exact .no
 | pick c a b => exact fin (pick_ok hev c a b) rfl
 | bin op x y => exact fin (bin_ok hev op x y) rfl
 | eqn kd neg x y => exact fin (eqn_ok hev kd neg x y) rfl
 | not x => exact fin (s1_ok hev fNot x) rfl
 | conv k x => exact fin (conv_ok hev k x) rfl
 | beq neg x y => exact fin (s2_ok hev (fBeq neg) x y) rfl
 | sbin op x y => exact fin (s2_ok hev (fSbin op) x y) rfl
 | sidx x y => exact fin (s2_ok hev fSidx x y) rfl
 | slen x => exact fin (s1_ok hev fSlen x) rfl
 | scut x lo hi => exact fin (scut_ok hev x lo hi) rfl
 | load n a => exact fin (load_ok hev hh n a) rfl
 | build cs ps => exact fin (build_ok hev cs ps) rfl
 | slice size x lo hi mx => exact fin (slice_ok hev size x lo hi mx) rfl
 | slarr len size x lo hi mx => exact fin (slarr_ok hev len size x lo hi mx) rfl
 | faddr off x => exact fin (faddr_ok hev off x) rfl
 | fld n off x => exact fin (fld_ok hev n off x) rfl
 | iaddr size x i => exact fin (iaddr_ok (hp := hp) hev size x i) rfl
 | iarr len size x i => exact fin (iarr_ok hev len size x i) rfl
 | ext x i => exact fin (ext_ok' hev i x) rfl
 | mkfn f a c => exact fin (mkfn_ok hev f a c) rfl
 | nilchk x => exact fin (nilchk_ok hev x) rfl
 | len x => exact fin (len_ok hev x) rfl
 | _ => cases h
end
end Go.Proofs.Ytggaimcopbjdiaa.AM
namespace Go.Proofs.Ytggaimcopbjdiaa.AM
section
variable {V : Type → Type} [Vec V] {F F' : Nat → Prop} {ρ ρ' : PR} {H H' : AH V} {hp hp' : PH} {ds ds' : List Nat} {ev : Src → Option PV} {ea : Src → Option Value} {P : Program} {cl : Value → List Value → AH V → Option (Value × AH V)}
theorem BOk.mono {b : Nat} {B : PB} (h : BOk F ρ H b B) (hle : FLe F H F H') (hr : RLe' ρ ρ') (hg : ∀ a e, B ≠ .dead → ρ b = some (some (a, e)) → Vec.get H' a = Vec.get H a) : BOk F ρ' H' b B := by
 cases B with
 | dead => trivial
 | cel cs =>
   obtain ⟨a, e, vs, r1, r2, r3, r4, r5⟩ := h
   exact ⟨a, e, vs, hr _ _ r1, r2, (hg a e (by simp) r1).trans r3, r4, r5.mono hle hr⟩
 | loop T ps as_ bd st pe =>
   obtain ⟨a, e, Ta, r1, r2, r3, r4⟩ := h
   exact ⟨a, e, Ta, hr _ _ r1, r2, (hg a e (by simp) r1).trans r3, r4.mono hle hr⟩
 | vec sz n f full =>
   rcases h with ⟨h1, h2⟩ | ⟨a, ce, vs, r1, r2, r3, r4, r5, r6, r7, r8, r9, r10⟩
   ·exact .inl ⟨hr _ _ h1, h2⟩
   ·exact .inr ⟨a, ce, vs, hr _ _ r1, r2, (hg a ce (by simp) r1).trans r3, r4, r5, r6, r7, r8, r9, fun i j c v q1 q2 q3 => (r10 i j c v q1 q2 q3).mono hle⟩
def PR.upd (ρ : PR) (b : Nat) (x : Option (Nat × Nat)) : PR := fun c => if c = b then some x else ρ c
theorem PR.upd_same (ρ : PR) (b : Nat) (x : Option (Nat × Nat)) : ρ.upd b x b = some x := by simp [PR.upd]
theorem PR.upd_ne {b c : Nat} {x : Option (Nat × Nat)} (h : c ≠ b) : ρ.upd b x c = ρ c := by simp [PR.upd, h]
def Free (F : Nat → Prop) (ρ : PR) (hp : PH) (ds : List Nat) (a : Nat) : Prop := ¬ F a ∧ a ∉ ds ∧ Own ρ a ∧ ∀ b B e, hp[b]? = some B → B ≠ .dead → ρ b ≠ some (some (a, e))
structure Step (F : Nat → Prop) (ρ : PR) (ds : List Nat) (H : AH V) (ρ' : PR) (hp' : PH) (H' : AH V) : Prop where
 rel : Rel F ρ' hp' ds H'
 le : RLe' ρ ρ'
 ext : PExt F ρ ds H F ρ' ds H'
theorem Step.fle (h : Step F ρ ds H ρ' hp' H') : FLe F H F H' := ⟨fun _ h => h, h.ext.fget⟩
theorem rel_push (hr : Rel F ρ hp ds H) {x : Option (Nat × Nat)} {B : PB} (hs : Vec.size H ≤ Vec.size H') (hk : ∀ a, a < Vec.size H → ¬ Free F ρ hp ds a → Vec.get H' a = Vec.get H a)
  (hx : ∀ a e, x = some (a, e) → a < Vec.size H' ∧ (Vec.size H ≤ a ∨ Free F ρ hp ds a)) (hb : FLe F H F H' → RLe' ρ (ρ.upd hp.length x) → BOk F (ρ.upd hp.length x) H' hp.length B) : Step F ρ ds H (ρ.upd hp.length x) (hp ++ [B]) H' := by
 have hfk : ∀ a, F a → Vec.get H' a = Vec.get H a := fun a ha => hk a (hr.fsz a ha) fun h => h.1 ha
 have hle : FLe F H F H' := ⟨fun _ h => h, hfk⟩
 have hrl : RLe' ρ (ρ.upd hp.length x) := fun b y hy => by
  by_cases e : b = hp.length
  ·subst e; rw [hr.dom _ (Nat.le_refl _)] at hy; cases hy
  ·rw [PR.upd_ne e]; exact hy
 have hlive : ∀ b B, hp[b]? = some B → b ≠ hp.length := fun b B hb e => by
  have := (List.getElem?_eq_some_iff.1 hb).1; omega
 have hget : ∀ b B', (hp ++ [B])[b]? = some B' → (hp[b]? = some B' ∧ b ≠ hp.length) ∨ (b = hp.length ∧ B' = B) := fun b B' h => by
  by_cases hb : b < hp.length
  ·rw [List.getElem?_append_left hb] at h; exact .inl ⟨h, by omega⟩
  ·rw [List.getElem?_append_right (by omega)] at h
   have hj := (List.getElem?_eq_some_iff.1 h).1
   simp only [List.length_singleton] at hj
   have : b = hp.length := by omega
   subst this
   simp at h
   exact .inr ⟨rfl, h.symm⟩
 have hfr : ∀ b B a e, hp[b]? = some B → B ≠ .dead → ρ b = some (some (a, e)) → a < Vec.size H ∧ ¬ Free F ρ hp ds a := fun b B a e h1 h2 h3 => ⟨hr.own b a e h3, fun hf => hf.2.2.2 b B e h1 h2 h3⟩
 refine ⟨⟨fun a ha => Nat.lt_of_lt_of_le (hr.fsz a ha) hs, ?_, ?_, ?_, ?_, ?_, hr.nd⟩, hrl, ⟨hs, fun _ h => h, hfk, fun _ h => .inl h, ?_, ?_, fun _ h => .inl h⟩⟩
 ·intro b B' h
  rcases hget b B' h with ⟨h, hne⟩ | ⟨rfl, rfl⟩
  ·exact (hr.blk b B' h).mono hle hrl fun a e hd q => by
    obtain ⟨q1, q2⟩ := hfr b B' a e h hd q
    exact hk a q1 q2
  ·exact hb hle hrl
 ·intro b b' B1 B2 a e e' h1 h2 d1 d2 q1 q2
  rcases hget b B1 h1 with ⟨g1, n1⟩ | ⟨rfl, rfl⟩
  ·rw [PR.upd_ne n1] at q1
   rcases hget b' B2 h2 with ⟨g2, n2⟩ | ⟨rfl, rfl⟩
   ·rw [PR.upd_ne n2] at q2
    exact hr.inj b b' B1 B2 a e e' g1 g2 d1 d2 q1 q2
   ·rw [PR.upd_same] at q2
    cases q2
    obtain ⟨p1, p2⟩ := hfr b B1 a e g1 d1 q1
    rcases (hx a e' rfl).2 with h | h
    ·omega
    ·exact absurd h p2
  ·rw [PR.upd_same] at q1
   cases q1
   rcases hget b' B2 h2 with ⟨g2, n2⟩ | ⟨rfl, rfl⟩
   ·rw [PR.upd_ne n2] at q2
    obtain ⟨p1, p2⟩ := hfr b' B2 a e' g2 d2 q2
    rcases (hx a e rfl).2 with h | h
    ·omega
    ·exact absurd h p2
   ·rfl
 ·intro b hb
  rw [List.length_append, List.length_singleton] at hb
  rw [PR.upd_ne (by omega)]
  exact hr.dom b (by omega)
 ·intro b a e h
  by_cases hb : b = hp.length
  ·subst hb; rw [PR.upd_same] at h; cases h; exact (hx a e rfl).1
  ·rw [PR.upd_ne hb] at h; exact Nat.lt_of_lt_of_le (hr.own b a e h) hs
 ·intro d hd
  obtain ⟨h1, h2, h3⟩ := hr.dfr d hd
  refine ⟨(hk d (Vec.get_lt _ _ _ h1) fun h => h.2.1 hd).trans h1, h2, ?_⟩
  rintro ⟨b, e, h⟩
  by_cases hb : b = hp.length
  ·subst hb; rw [PR.upd_same] at h; cases h
   rcases (hx d e rfl).2 with h | h
   ·exact absurd (Vec.get_lt _ _ _ h1) (by omega)
   ·exact h3 h.2.2.1
  ·rw [PR.upd_ne hb] at h; exact h3 ⟨b, e, h⟩
 ·intro a h1 h2 h3
  exact hk a h1 fun h => h2 h.2.2.1
 ·rintro a ⟨b, e, h⟩
  by_cases hb : b = hp.length
  ·subst hb; rw [PR.upd_same] at h; cases h
   rcases (hx a e rfl).2 with h | h
   ·exact .inr h
   ·exact .inl h.2.2.1
  ·rw [PR.upd_ne hb] at h; exact .inl ⟨b, e, h⟩
theorem rel_new (hr : Rel F ρ hp ds H) {vs : List Value} {ce : Nat} {B : PB} (hb : FLe F H F (anew H vs) → RLe' ρ (ρ.upd hp.length (some (Vec.size H, ce))) → BOk F (ρ.upd hp.length (some (Vec.size H, ce))) (anew H vs) hp.length B) :
  Step F ρ ds H (ρ.upd hp.length (some (Vec.size H, ce))) (hp ++ [B]) (anew H vs) :=
 rel_push hr (by rw [size_anew]; omega) (fun a ha _ => get_anew_lt ha) (fun a e h => by cases h; rw [size_anew]; exact ⟨by omega, .inl (Nat.le_refl _)⟩) hb
theorem rel_kill (hr : Rel F ρ hp ds H) (b : Nat) : Rel F ρ (hp.set b .dead) ds H := by
 have hget : ∀ c B, (hp.set b .dead)[c]? = some B → B ≠ .dead → hp[c]? = some B ∧ c ≠ b := fun c B h hd => by
  by_cases e : b = c
  ·subst e
   have hl : b < hp.length := by
    have := (List.getElem?_eq_some_iff.1 h).1; simpa using this
   rw [List.getElem?_set_self hl] at h
   cases h; exact absurd rfl hd
  ·rw [List.getElem?_set_ne e] at h; exact ⟨h, fun x => e x.symm⟩
 refine ⟨hr.fsz, ?_, ?_, ?_, hr.own, hr.dfr, hr.nd⟩
 ·intro c B h
  by_cases hd : B = .dead
  ·subst hd; trivial
  ·exact hr.blk c B (hget c B h hd).1
 ·intro c c' B B' a e e' h1 h2 d1 d2
  exact hr.inj c c' B B' a e e' (hget c B h1 d1).1 (hget c' B' h2 d2).1 d1 d2
 ·intro c hc
  exact hr.dom c (by simpa using hc)
theorem free_of (hr : Rel F ρ hp ds H) {b a e : Nat} {B : PB} (hb : hp[b]? = some B) (hd : B ≠ .dead) (hρ : ρ b = some (some (a, e))) (hF : ¬ F a) : Free F ρ (hp.set b .dead) ds a := by
 refine ⟨hF, fun h => ?_, ⟨b, e, hρ⟩, fun c C e' h1 h2 h3 => ?_⟩
 ·exact (hr.dfr a h).2.2 ⟨b, e, hρ⟩
 ·by_cases hc : b = c
  ·subst hc
   have hl : b < hp.length := (List.getElem?_eq_some_iff.1 hb).1
   rw [List.getElem?_set_self hl] at h1
   cases h1; exact h2 rfl
  ·rw [List.getElem?_set_ne hc] at h1
   exact hc (hr.inj b c B C a e e' hb h1 hd h2 hρ h3)
theorem rel_set (hr : Rel F ρ hp ds H) {b a e : Nat} {B B' : PB} {X Y : Blk} (hb : hp[b]? = some B) (hd : B ≠ .dead) (hρ : ρ b = some (some (a, e))) (hF : ¬ F a) (hg : Vec.get H a = some X)
  (hB : FLe F H F (Vec.set H a Y) → Vec.get (Vec.set H a Y) a = some Y → BOk F ρ (Vec.set H a Y) b B') : Step F ρ ds H ρ (hp.set b B') (Vec.set H a Y) := by
 have hal : a < Vec.size H := Vec.get_lt _ _ _ hg
 have hbl : b < hp.length := (List.getElem?_eq_some_iff.1 hb).1
 have hne : ∀ c, a ≠ c → Vec.get (Vec.set H a Y) c = Vec.get H c := fun c h => get_set_ne h
 have hfk : ∀ c, F c → Vec.get (Vec.set H a Y) c = Vec.get H c := fun c hc => hne c fun h => hF (h ▸ hc)
 have hle : FLe F H F (Vec.set H a Y) := ⟨fun _ h => h, hfk⟩
 have hget : ∀ c C, (hp.set b B')[c]? = some C → (c = b ∧ C = B') ∨ (c ≠ b ∧ hp[c]? = some C) := fun c C h => by
  by_cases hc : b = c
  ·subst hc
   rw [List.getElem?_set_self hbl] at h
   cases h; exact .inl ⟨rfl, rfl⟩
  ·rw [List.getElem?_set_ne hc] at h; exact .inr ⟨fun x => hc x.symm, h⟩
 refine ⟨⟨fun c hc => by rw [Vec.size_set]; exact hr.fsz c hc, ?_, ?_, ?_, ?_, ?_, hr.nd⟩, fun _ _ h => h, ⟨by rw [Vec.size_set]; omega, fun _ h => h, hfk, fun _ h => .inl h, ?_, fun _ h => .inl h, fun _ h => .inl h⟩⟩
 ·intro c C h
  rcases hget c C h with ⟨rfl, rfl⟩ | ⟨hc, h⟩
  ·exact hB hle (get_set_same hal)
  ·exact (hr.blk c C h).mono hle (fun _ _ h => h) fun a' e' hd' q => hne a' fun x => by
    subst x
    exact hc (hr.inj c b C B a e' e h hb hd' hd q hρ)
 ·intro c c' C C' a' e1 e2 h1 h2 d1 d2 q1 q2
  have conv : ∀ c (C : PB), (hp.set b B')[c]? = some C → C ≠ .dead → ∃ C0 : PB, hp[c]? = some C0 ∧ C0 ≠ .dead := fun c C h hd' => by
   rcases hget c C h with ⟨rfl, rfl⟩ | ⟨hc, h⟩
   ·exact ⟨B, hb, hd⟩
   ·exact ⟨C, h, hd'⟩
  obtain ⟨C1, a1, b1⟩ := conv c C h1 d1
  obtain ⟨C2, a2, b2⟩ := conv c' C' h2 d2
  exact hr.inj c c' C1 C2 a' e1 e2 a1 a2 b1 b2 q1 q2
 ·intro c hc; exact hr.dom c (by simpa using hc)
 ·intro c a' e' h; rw [Vec.size_set]; exact hr.own c a' e' h
 ·intro d hd'
  obtain ⟨h1, h2, h3⟩ := hr.dfr d hd'
  refine ⟨(hne d fun x => ?_).trans h1, h2, h3⟩
  exact h3 (x ▸ ⟨b, e, hρ⟩)
 ·intro c h1 h2 h3
  exact hne c fun x => h2 (x ▸ ⟨b, e, hρ⟩)
end
end Go.Proofs.Ytggaimcopbjdiaa.AM
namespace Go.Proofs.Ytggaimcopbjdiaa.AM
section
variable {V : Type → Type} [Vec V] {F F' : Nat → Prop} {ρ ρ' : PR} {H H' : AH V} {hp hp' : PH} {ds ds' : List Nat} {ev : Src → Option PV} {ea : Src → Option Value} {P : Program} {cl : Value → List Value → AH V → Option (Value × AH V)}
def Stab (md : List Nat) (ρ : PR) (hp : PH) (H H' : AH V) : Prop := ∀ b B a e, hp[b]? = some B → B ≠ .dead → b ∉ md → ρ b = some (some (a, e)) → Vec.get H' a = Vec.get H a
def EOk (F : Nat → Prop) (ρ : PR) (ds : List Nat) (hp : PH) (H : AH V) (md : List Nat) (r : PER) (s : Option (Value × AH V)) : Prop := ∀ v hp' q, r = some (v, hp', q) → q → ∃ w H' ρ', s = some (w, H') ∧ Step F ρ ds H ρ' hp' H' ∧ PRel F ρ' H' v w ∧ Stab md ρ hp H H'
theorem EOk.no {md : List Nat} {s : Option (Value × AH V)} : EOk F ρ ds hp H md none s := fun v hp' q h => by cases h
theorem EOk.of {md : List Nat} {v : PV} {hp' : PH} {q : Prop} {s : Option (Value × AH V)} (h : q → ∃ w H' ρ', s = some (w, H') ∧ Step F ρ ds H ρ' hp' H' ∧ PRel F ρ' H' v w ∧ Stab md ρ hp H H') : EOk F ρ ds hp H md (some (v, hp', q)) s := fun v' hp'' q' e hq => by
 cases e; exact h hq
theorem PRel.nl {v : PV} {w : Value} (h : PRel F ρ H v w) (hv : nlb v = true) : FRel F H v w := by
 cases h with
 | fr h => exact h
 | _ => cases hv
theorem stab_new (hr : Rel F ρ hp ds H) (md : List Nat) (cs : List Value) : Stab md ρ hp H (anew H cs) := fun b B a e h1 h2 h3 h4 => get_anew_lt (hr.own b a e h4)
theorem stab_set (hr : Rel F ρ hp ds H) {b a e : Nat} {B : PB} {X : Blk} (hb : hp[b]? = some B) (hd : B ≠ .dead) (hρ : ρ b = some (some (a, e))) : Stab [b] ρ hp H (Vec.set H a X) := fun b' B' a' e' h1 h2 h3 h4 => get_set_ne fun x => by
 subst x
 have := hr.inj b b' B B' a e e' hb h1 hd h2 hρ h4
 subst this
 simp at h3
theorem psplice_get : ∀ (vs cs : List PV) (o i : Nat), o + vs.length ≤ cs.length → (psplice cs o vs)[i]? = if o ≤ i ∧ i < o + vs.length then vs[i - o]? else cs[i]?
 | [], cs, o, i, h => by
   simp only [psplice, List.length_nil, Nat.add_zero]
   rw [if_neg (by omega)]
 | v :: r, cs, o, i, h => by
   simp only [psplice]
   simp only [List.length_cons] at h
   rw [psplice_get r (cs.set o v) (o + 1) i (by rw [List.length_set]; omega)]
   by_cases h1 : i = o
   ·subst h1
    rw [if_neg (by omega), if_pos ⟨by omega, by simp⟩, List.getElem?_set_self (by omega)]
    simp
   ·by_cases h2 : o + 1 ≤ i ∧ i < o + 1 + r.length
    ·rw [if_pos h2, if_pos ⟨by omega, by simp only [List.length_cons]; omega⟩]
     rw [show i - o = (i - (o + 1)) + 1 by omega, List.getElem?_cons_succ]
    ·rw [if_neg h2, if_neg (by simp only [List.length_cons]; omega), List.getElem?_set_ne (by omega)]
theorem idx_lt {i i' j off n sz : Nat} (hj : j < sz) (ho : off + n ≤ sz) (h : i' ≠ i) : ¬ (i * sz + off ≤ i' * sz + j ∧ i' * sz + j < i * sz + off + n) := by
 rcases Nat.lt_or_gt_of_ne h with h | h
 ·have := Nat.mul_le_mul_right sz (show i' + 1 ≤ i by omega)
  rw [Nat.add_mul] at this; omega
 ·have := Nat.mul_le_mul_right sz (show i + 1 ≤ i' by omega)
  rw [Nat.add_mul] at this; omega
theorem row_le {i m sz : Nat} (h : i < m) : i * sz + sz ≤ m * sz := by
 have := Nat.mul_le_mul_right sz (show i + 1 ≤ m by omega)
 rw [Nat.add_mul] at this; omega
theorem store_ok (hr : Rel F ρ hp ds H) (hev : EvOk F ρ H ev ea) (n : Nat) (a x : Src) : EOk F ρ ds hp H (pmod (.store n a x) ev) (pstore hp n (ev a) (ev x)) (x2 (fStore n H) ea a x) := by
 unfold pstore
 simp only [force_eq, fnat_eq]
 split
 ·next b off v e1 e2 =>
  obtain ⟨w, h1, h2⟩ := hev _ _ e1
  obtain ⟨u, h3, h4⟩ := hev _ _ e2
  have hmd : pmod (.store n a x) ev = [b] := by simp only [pmod, e1]
  rw [hmd]
  split
  ·next cs e3 =>
   cases hb : ((pcs v).all okc && (Nat.beq (pcs v).length n && Nat.ble (off + n) cs.length)) with
   | false => exact .no
   | true =>
     simp only [Bool.and_eq_true, Nat.beq_eq, Nat.ble_eq] at hb
     obtain ⟨b1, b2, b3⟩ := hb
     refine .of fun _ => ?_
     obtain ⟨a', e, vs, r1, r2, r3, r4, r5⟩ := hr.blk b _ e3
     obtain ⟨q1, q2⟩ := pcs_ok h4 b1
     cases h2 with
     | fr h => cases h
     | ptr h =>
       rw [r1] at h; cases h
       refine ⟨undef, Vec.set H a' (.arr (splice vs off u.cells.toList) true 0), ρ, ?_, rel_set hr e3 (by simp) r1 r2 r3 fun hle hg => ?_, .fr (.junk _), stab_set hr e3 (by simp) r1⟩
       ·simp only [x2, h1, h3, fStore, astore]
        have hl : u.cells.toList.length = n := by rw [← q1.len]; exact b2
        rw [if_pos hl]
        simp only [aput', r3]
        rw [if_pos ⟨Nat.zero_le _, by rw [hl, ← r5.len]; exact b3, List.all_eq_true.2 fun v hv => q2 v hv⟩]
       ·exact ⟨a', e, _, r1, r2, hg, splice_one r4 q2, (splice_ok r5 q1).mono hle (fun _ _ h => h)⟩
  ·exact .no
 ·next sz b i off v e1 e2 =>
  obtain ⟨w, h1, h2⟩ := hev _ _ e1
  obtain ⟨u, h3, h4⟩ := hev _ _ e2
  have hmd : pmod (.store n a x) ev = [b] := by simp only [pmod, e1]
  rw [hmd]
  split
  ·next sz' m f full e3 =>
   cases hb : ((pcs v).all okc && ((pcs v).all nlb && (Nat.beq (pcs v).length n && Nat.ble (off + n) sz))) with
   | false => exact .no
   | true =>
     simp only [Bool.and_eq_true, Nat.beq_eq, Nat.ble_eq] at hb
     obtain ⟨b1, bn, b2, b3⟩ := hb
     refine .of fun hq => ?_
     obtain ⟨rfl, him⟩ := hq
     obtain ⟨q1, q2⟩ := pcs_ok h4 b1
     rcases hr.blk b _ e3 with ⟨_, h0⟩ | ⟨a', ce, vs, r1, r2, r3, r4, r5, r6, r7, r8, r9, r10⟩
     ·omega
     cases h2 with
     | fr h => cases h
     | eptr h =>
       rw [r1] at h; cases h
       have hl : u.cells.toList.length = n := by rw [← q1.len]; exact b2
       have hms := Nat.mul_le_mul_right sz' r6
       have hfit : i * sz' + off + u.cells.toList.length ≤ vs.length := by
        rw [hl, r8]
        have := row_le (sz := sz') him
        omega
       refine ⟨undef, Vec.set H a' (.arr (splice vs (i * sz' + off) u.cells.toList) true 0), ρ, ?_, rel_set hr e3 (by simp) r1 r2 r3 fun hle hg => ?_, .fr (.junk _), stab_set hr e3 (by simp) r1⟩
       ·simp only [x2, h1, h3, fStore, astore]
        rw [if_pos hl]
        simp only [aput', r3]
        rw [if_pos ⟨Nat.zero_le _, hfit, List.all_eq_true.2 fun v hv => q2 v hv⟩]
       ·refine .inr ⟨a', ce, _, r1, r2, hg, splice_one r4 q2, r5, r6, r7, by rw [splice_length]; exact r8, fun i' hi' => ?_, fun i' j c v' hi' c1 c2 => ?_⟩
        ·show (if i' = i then psplice (f i') off (pcs v) else f i').length = sz'
         split
         ·rw [psplice_length]; exact r9 i' hi'
         ·exact r9 i' hi'
        ·replace c1 : (if i' = i then psplice (f i') off (pcs v) else f i')[j]? = some c := c1
         have hpl : off + (pcs v).length ≤ (f i').length := by rw [b2, r9 i' hi']; exact b3
         rw [splice_get _ _ _ _ hfit, hl] at c2
         by_cases hi : i' = i
         ·rw [if_pos hi] at c1
          rw [psplice_get _ _ _ _ hpl, b2] at c1
          subst hi
          by_cases hin : off ≤ j ∧ j < off + n
          ·rw [if_pos hin] at c1
           rw [if_pos (by omega), show i' * sz' + j - (i' * sz' + off) = j - off by omega] at c2
           exact ((q1.at' _ _ _ c1 c2).nl (List.all_eq_true.1 bn _ (List.mem_of_getElem? c1))).mono hle
          ·rw [if_neg hin] at c1
           rw [if_neg (by omega)] at c2
           exact (r10 i' j c v' hi' c1 c2).mono hle
         ·rw [if_neg hi] at c1
          have hj : j < sz' := by rw [← r9 i' hi']; exact (List.getElem?_eq_some_iff.1 c1).1
          rw [if_neg (idx_lt hj b3 hi)] at c2
          exact (r10 i' j c v' hi' c1 c2).mono hle
  ·exact .no
 ·exact .no
theorem nf (hr : Rel F ρ hp ds H) : ¬ F (Vec.size H) := fun h => Nat.lt_irrefl _ (hr.fsz _ h)
theorem alloc_ok (hr : Rel F ρ hp ds H) {md : List Nat} {cs : List PV} {vs : List Value} (h : PRels F ρ H cs vs) (ho : ∀ u, u ∈ vs → oneCell u = true) : ∃ w H' ρ', newPtr H vs = some (w, H') ∧ Step F ρ ds H ρ' (hp ++ [.cel cs]) H' ∧ PRel F ρ' H' (.ptr hp.length 0) w ∧ Stab md ρ hp H H' :=
 ⟨_, _, _, rfl, rel_new (ce := 0) hr fun hle hl => ⟨_, _, vs, PR.upd_same _ _ _, nf hr, get_anew_same _ _, ho, h.mono hle hl⟩, .ptr (PR.upd_same _ _ _), stab_new hr _ _⟩
theorem mkarr_ok (hr : Rel F ρ hp ds H) (hev : EvOk F ρ H ev ea) (n : Nat) (cs : List Value) (ps : List (Nat × Nat × Src)) (md : List Nat) : EOk F ρ ds hp H md (pmkarr hp n cs (pparts ev ps)) (xMkarr ea H n cs ps) := by
 unfold pmkarr
 simp only [force_eq, fnat_eq]
 split
 ·next e =>
  obtain ⟨m, h1, h2⟩ := parts_ok hev e
  cases h2
  split
  ·refine .of fun _ => ?_
   refine ⟨.slice (some ⟨Vec.size H, 0, none⟩) 0 1, anew H [], ρ.upd hp.length (some (Vec.size H, 1)), ?_, rel_new hr fun hle hl => .inr ⟨_, _, [], PR.upd_same _ _ _, nf hr, get_anew_same _ _, (fun u hu => nomatch hu), by omega, by omega, fun _ => by omega, rfl, fun i hi => by omega, fun i j c' v hi => by omega⟩, .vec (PR.upd_same _ _ _) (by omega), stab_new hr _ _⟩
   simp only [xMkarr, h1, afill]
   rfl
  ·cases hb : (Nat.blt 0 n && (Nat.beq cs.length (n * (cs.length / n)) && cs.all oneCell)) with
   | false => exact .no
   | true =>
     simp only [Bool.and_eq_true, Nat.blt_eq, Nat.beq_eq] at hb
     obtain ⟨b1, b2, b3⟩ := hb
     refine .of fun _ => ?_
     refine ⟨.slice (some ⟨Vec.size H, 0, none⟩) n (2 * n + 1), anew H cs, ρ.upd hp.length (some (Vec.size H, 2 * n + 1)), ?_, rel_new hr fun hle hl => .inr ⟨_, _, cs, PR.upd_same _ _ _, nf hr, get_anew_same _ _, fun u hu => List.all_eq_true.1 b3 u hu, by omega, by omega, fun _ => by omega, ?_, fun i hi => ?_, fun i j c' v hi c1 c2 => ?_⟩, .vec (PR.upd_same _ _ _) (by omega), stab_new hr _ _⟩
     ·simp only [xMkarr, h1, afill]
      rw [if_pos b3]
     ·rw [show (2 * n + 1) / 2 = n by omega]; exact b2
     ·rw [List.length_take, List.length_drop, List.length_map]
      have := row_le (sz := cs.length / n) hi
      omega
     ·rw [List.getElem?_take] at c1
      split at c1
      ·rw [List.getElem?_drop, List.getElem?_map, c2] at c1
       cases c1
       exact .s _
      ·cases c1
 ·next l _ e =>
  obtain ⟨m, h1, h2⟩ := parts_ok hev e
  split
  ·next c e2 =>
   obtain ⟨us, r1, r2, _⟩ := fill_ok h2 (rels_s cs) e2
   cases hb : (Nat.blt 0 n && (Nat.beq c.length (n * (c.length / n)) && (c.all okc && c.all nlb))) with
   | false => exact .no
   | true =>
     simp only [Bool.and_eq_true, Nat.blt_eq, Nat.beq_eq] at hb
     obtain ⟨b1, b2, b3, bn⟩ := hb
     refine .of fun _ => ?_
     have ho : ∀ u, u ∈ us → oneCell u = true := fun u hu => by
      obtain ⟨j, hj, rfl⟩ := List.mem_iff_getElem.1 hu
      have hj' : j < c.length := by rw [r2.len]; exact hj
      exact okc_one (r2.at' j c[j] _ (List.getElem?_eq_getElem hj') (List.getElem?_eq_getElem hj)) (List.all_eq_true.1 b3 _ (List.getElem_mem hj'))
     refine ⟨.slice (some ⟨Vec.size H, 0, none⟩) n (2 * n + 1), anew H us, ρ.upd hp.length (some (Vec.size H, 2 * n + 1)), ?_, rel_new hr fun hle hl => .inr ⟨_, _, us, PR.upd_same _ _ _, nf hr, get_anew_same _ _, ho, by omega, by omega, fun _ => by omega, ?_, fun i hi => ?_, fun i j c' v hi c1 c2 => ?_⟩, .vec (PR.upd_same _ _ _) (by omega), stab_new hr _ _⟩
     ·simp only [xMkarr, h1, r1]
      rw [if_pos (List.all_eq_true.2 ho)]
     ·rw [← r2.len, show (2 * n + 1) / 2 = n by omega]; exact b2
     ·rw [List.length_take, List.length_drop]
      have := row_le (sz := c.length / n) hi
      omega
     ·rw [List.getElem?_take] at c1
      split at c1
      ·rw [List.getElem?_drop] at c1
       exact ((r2.at' _ _ _ c1 c2).nl (List.all_eq_true.1 bn _ (List.mem_of_getElem? c1))).mono hle
      ·cases c1
  ·exact .no
 ·exact .no
theorem rep_flat {zero : List Value} {c i j : Nat} (hi : i < c) (hj : j < zero.length) : (List.replicate c zero).flatten[i * zero.length + j]? = zero[j]? := by
 have hs : Sized zero.length (List.replicate c zero) := fun e he => by rw [List.eq_of_mem_replicate he]
 have := hs.at (i := i) (by simpa using hi)
 simp only [List.getElem_replicate] at this
 conv => rhs; rw [← this]
 rw [List.getElem?_take, if_pos hj, List.getElem?_drop]
theorem mkslice_ok (hr : Rel F ρ hp ds H) (hev : EvOk F ρ H ev ea) (zero : List Value) (bytes : Nat) (l c : Src) (md : List Nat) : EOk F ρ ds hp H md (pmkslice hp zero bytes (ev l) (ev c)) (x2 (amkslice zero bytes H) ea l c) := by
 unfold pmkslice
 simp only [force_eq, fnat_eq]
 split
 ·next l' c' e1 e2 =>
  obtain ⟨k1, h1⟩ := nat_of hev e1
  obtain ⟨k2, h2⟩ := nat_of hev e2
  cases hb : zero.all oneCell with
  | false => exact .no
  | true =>
    refine .of fun hq => ?_
    obtain ⟨rfl, q1, q2⟩ := hq
    have ho := List.all_eq_true.1 hb
    refine ⟨.slice (some ⟨Vec.size H, 0, none⟩) l' (2 * l' + 1), anew H (List.replicate l' zero).flatten, ρ.upd hp.length (some (Vec.size H, 2 * l' + 1)), ?_, rel_new hr fun hle hl => .inr ⟨_, _, _, PR.upd_same _ _ _, nf hr, get_anew_same _ _, ?_, by omega, by omega, fun _ => by omega, ?_, fun i hi => by simp, fun i j c' v hi c1 c2 => ?_⟩, .vec (PR.upd_same _ _ _) (by omega), stab_new hr _ _⟩
    ·simp only [x2, h1, h2, amkslice]
     have q1' : (l' : Int) * (bytes : Int) ≤ 281474976710656 := by rw [← Int.natCast_mul]; exact Int.ofNat_le.2 q1
     rw [if_pos ⟨by omega, by omega, q1', by omega⟩]
     rw [Int.toNat_natCast]
    ·intro u hu
     simp only [List.mem_flatten] at hu
     obtain ⟨l, hl, hu⟩ := hu
     rw [List.eq_of_mem_replicate hl] at hu
     exact ho u hu
    ·simp; rw [show (2 * l' + 1) / 2 = l' by omega]
    ·rw [List.getElem?_map] at c1
     cases hz : zero[j]? with
     | none => rw [hz] at c1; cases c1
     | some z =>
       rw [hz] at c1
       cases c1
       rw [rep_flat hi (List.getElem?_eq_some_iff.1 hz).1, hz] at c2
       cases c2
       exact .s _
 ·exact .no
end
end Go.Proofs.Ytggaimcopbjdiaa.AM
namespace Go.Proofs.Ytggaimcopbjdiaa.AM
section
variable {V : Type → Type} [Vec V] {F F' : Nat → Prop} {ρ ρ' : PR} {H H' : AH V} {hp hp' : PH} {ds ds' : List Nat} {ev : Src → Option PV} {ea : Src → Option Value} {P : Program} {cl : Value → List Value → AH V → Option (Value × AH V)}
structure Rows (F : Nat → Prop) (ρ : PR) (H : AH V) (size k : Nat) (g : Nat → List PV) (new : List Value) : Prop where
 len : new.length = k * size
 one : ∀ u, u ∈ new → oneCell u = true
 each : ∀ i, i < k → (g i).length = size
 cell : ∀ (i j : Nat) (c : PV) (v : Value), i < k → (g i)[j]? = some c → new[i * size + j]? = some v → FRel F H c v
theorem Rows.mono {size k : Nat} {g : Nat → List PV} {new : List Value} (h : Rows F ρ H size k g new) (hle : FLe F H F H') (hl : RLe' ρ ρ') : Rows F ρ' H' size k g new := ⟨h.len, h.one, h.each, fun i j c v q1 q2 q3 => (h.cell i j c v q1 q2 q3).mono hle⟩
theorem Rows.app {size n k m : Nat} {f g : Nat → List PV} {new vs : List Value} (h : Rows F ρ H size k g new) (hf : ∀ i, i < n → (f i).length = size) (hc : ∀ (i j : Nat) (c : PV) (v : Value), i < n → (f i)[j]? = some c → vs[i * size + j]? = some v → FRel F H c v) (ho : ∀ u, u ∈ vs → oneCell u = true) (hv : n * size ≤ vs.length) :
  Rows F ρ H size (n + k) (fun j => if j < n then f j else g (j - n)) (vs.take (n * size) ++ new) := by
 refine ⟨by rw [List.length_append, List.length_take, h.len, Nat.min_eq_left hv, Nat.add_mul], fun u hu => ?_, fun i hi => ?_, fun i j c v hi h1 h2 => ?_⟩
 ·rcases List.mem_append.1 hu with q | q
  ·exact ho u (List.mem_of_mem_take q)
  ·exact h.one u q
 ·show (if i < n then f i else g (i - n)).length = size
  split
  ·next q => exact hf i q
  ·exact h.each _ (by omega)
 ·replace h1 : (if i < n then f i else g (i - n))[j]? = some c := h1
  by_cases hin : i < n
  ·rw [if_pos hin] at h1
   have hj : j < size := by rw [← hf i hin]; exact (List.getElem?_eq_some_iff.1 h1).1
   have := row_le (sz := size) hin
   rw [List.getElem?_append_left (by rw [List.length_take]; omega), List.getElem?_take, if_pos (by omega)] at h2
   exact hc i j c v hin h1 h2
  ·rw [if_neg hin] at h1
   have he : (i - n) * size + n * size = i * size := by rw [← Nat.add_mul]; congr 1; omega
   rw [List.getElem?_append_right (by rw [List.length_take]; omega), List.length_take, Nat.min_eq_left hv, show i * size + j - n * size = (i - n) * size + j by omega] at h2
   exact h.cell (i - n) j c v (by omega) h1 h2
theorem src_ok (hr : Rel F ρ hp ds H) (hev : EvOk F ρ H ev ea) {size k : Nat} {g : Nat → List PV} {q : Prop} {x : Src} (h : psrc hp size (ev x) = some (k, g, q)) (hq : q) : ∃ w new, ea x = some w ∧ alen w = some k ∧ asrc H size k w = some new ∧ Rows F ρ H size k g new := by
 have none_ : ∀ (g : Nat → List PV), Rows F ρ H size 0 g [] := fun g => ⟨by simp, fun u hu => by simp at hu, fun i hi => by omega, fun i j c v hi => by omega⟩
 unfold psrc at h
 split at h
 ·next sz n k' row e1 =>
  obtain ⟨w, h1, h2⟩ := hev _ _ e1
  cases hb : Nat.beq sz size with
  | false => rw [hb] at h; cases h
  | true =>
  rw [hb] at h
  cases h
  have hsz := Nat.eq_of_beq_eq_true hb
  subst hsz
  cases h2.frz_inv with
  | nil hn =>
    refine ⟨w, [], h1, ?_, ?_, none_ _⟩
    ·rcases hn with rfl | ⟨b, o, s, ce, rfl⟩ <;> rfl
    ·rcases hn with rfl | ⟨b, o, s, ce, rfl⟩ <;> rfl
  | @frz _ _ _ _ b off ce blk _ _ hF hg hn hk hl hs ho hc =>
    have hnk : k * sz ≤ k' * sz := Nat.mul_le_mul_right _ hn
    refine ⟨_, (blk.drop off).take (k * sz), h1, rfl, ?_, ⟨by rw [List.length_take, List.length_drop]; omega, fun u hu => ho u (List.mem_of_mem_drop (List.mem_of_mem_take hu)), fun i hi => hs i (by omega), fun i j c v hi c1 c2 => ?_⟩⟩
    ·simp only [asrc, arow, hg]
     rw [if_pos (by omega)]
    ·rw [List.getElem?_take] at c2
     split at c2
     ·rw [List.getElem?_drop, ← Nat.add_assoc] at c2
      exact hc i j c v (by omega) c1 c2
     ·cases c2
 ·next sz b n e1 =>
  obtain ⟨w, h1, h2⟩ := hev _ _ e1
  split at h
  ·next sz' m f full e2 =>
   cases hb : Nat.beq sz size with
   | false => rw [hb] at h; cases h
   | true =>
   rw [hb] at h
   cases h
   have hsz := Nat.eq_of_beq_eq_true hb
   subst hsz
   obtain ⟨hnm, rfl⟩ := hq
   cases h2 with
   | fr h => cases h
   | vecz hz h0 => subst h0; exact ⟨_, [], h1, rfl, rfl, none_ _⟩
   | @vec _ _ _ a ce hv hn =>
     rcases hr.blk b _ e2 with ⟨hz, _⟩ | ⟨a', ce', vs, r1, r2, r3, r4, r5, r6, r7, r8, r9, r10⟩
     ·rw [hv] at hz; cases hz
     ·rw [hv] at r1; cases r1
      have hms := Nat.mul_le_mul_right sz' hn
      refine ⟨_, vs.take (k * sz'), h1, rfl, ?_, ⟨by rw [List.length_take]; omega, fun u hu => r4 u (List.mem_of_mem_take hu), fun i hi => r9 i (by omega), fun i j c v hi c1 c2 => ?_⟩⟩
      ·simp only [asrc, arow, r3]
       rw [if_pos (by omega), List.drop_zero]
      ·rw [List.getElem?_take] at c2
       split at c2
       ·exact r10 i j c v (by omega) c1 c2
       ·cases c2
  ·cases h
 ·next sz b i0 n e1 =>
  obtain ⟨w, h1, h2⟩ := hev _ _ e1
  split at h
  ·next sz' m f full e2 =>
   cases hb : Nat.beq sz size with
   | false => rw [hb] at h; cases h
   | true =>
   rw [hb] at h
   cases h
   have hsz := Nat.eq_of_beq_eq_true hb
   subst hsz
   obtain ⟨hnm, rfl⟩ := hq
   cases h2 with
   | fr h => cases h
   | subz hz h0 => subst h0; exact ⟨_, [], h1, rfl, rfl, none_ _⟩
   | @sub _ _ _ _ o a ce ce' hv ho hl hn =>
     rcases hr.blk b _ e2 with ⟨hz, _⟩ | ⟨a', ce2, vs, r1, r2, r3, r4, r5, r6, r7, r8, r9, r10⟩
     ·rw [hv] at hz; cases hz
     ·rw [hv] at r1; cases r1
      have hms : (i0 + k) * sz' ≤ ce / 2 * sz' := Nat.mul_le_mul_right sz' (by omega)
      rw [Nat.add_mul] at hms
      have ho2 : o + k * sz' ≤ vs.length := by
       rcases ho with h0 | h0
       ·subst h0; rw [Nat.zero_mul]; omega
       ·subst h0; omega
      refine ⟨_, (vs.drop o).take (k * sz'), h1, rfl, ?_, ⟨by rw [List.length_take, List.length_drop]; omega, fun u hu => r4 u (List.mem_of_mem_drop (List.mem_of_mem_take hu)), fun i hi => r9 _ (by omega), fun i j c v hi c1 c2 => ?_⟩⟩
      ·simp only [asrc, arow, r3]
       rw [if_pos (by omega)]
      ·rw [List.getElem?_take] at c2
       split at c2
       ·rw [List.getElem?_drop] at c2
        have ho' : o = i0 * sz' := by
         rcases ho with h0 | h0
         ·omega
         ·exact h0
        refine r10 (i0 + i) j c v (by omega) c1 ?_
        rw [Nat.add_mul, ← ho', Nat.add_assoc]
        exact c2
       ·cases c2
  ·cases h
 ·next e1 =>
  cases h
  exact ⟨_, [], s_of hev e1, rfl, rfl, none_ _⟩
 ·cases h
theorem app_nil (hr : Rel F ρ hp ds H) {size bytes k : Nat} {g : Nat → List PV} {w : Value} {new : List Value} (hk : alen w = some k) (hs : asrc H size k w = some new) (hn : Rows F ρ H size k g new) (hb : k * bytes ≤ room) (full : Bool) :
  ∃ u H' ρ', aappend false size bytes H (.slice none 0 0) w = some (u, H') ∧ Step F ρ ds H ρ' (hp ++ [.vec size k g full]) H' ∧ PRel F ρ' H' (.vec size hp.length k) u ∧ Stab [] ρ hp H H' := by
 have ho : new.all oneCell = true := List.all_eq_true.2 hn.one
 have hc : ¬ (new.all oneCell = false ∨ room < (0 + k) * bytes) := by rw [ho]; simp; exact hb
 by_cases h0 : k = 0
 ·subst h0
  refine ⟨.slice none 0 0, H, ρ.upd hp.length none, ?_, rel_push hr (Nat.le_refl _) (fun _ _ _ => rfl) (fun a e h => by cases h) fun hle hl => .inl ⟨PR.upd_same _ _ _, rfl⟩, .vecz (PR.upd_same _ _ _) rfl, fun b B a e h1 h2 h3 h4 => rfl⟩
  simp only [aappend, hk, hs]
  rw [if_neg hc]; simp
 ·refine ⟨.slice (some ⟨Vec.size H, 0, none⟩) k (2 * k), anew H new, ρ.upd hp.length (some (Vec.size H, 2 * k)), ?_, rel_new hr fun hle hl => ?_, .vec (PR.upd_same _ _ _) (by omega), stab_new hr _ _⟩
  ·simp only [aappend, hk, hs]
   rw [if_neg hc]; simp [h0]
  ·exact .inr ⟨_, _, new, PR.upd_same _ _ _, nf hr, get_anew_same _ _, hn.one, by omega, by omega, fun _ => by omega, by rw [show 2 * k / 2 = k by omega]; exact hn.len, hn.each, (hn.mono hle hl).cell⟩
theorem app_exv (hr : Rel F ρ hp ds H) {size bytes k b n m : Nat} {f g : Nat → List PV} {full : Bool} {w s : Value} {new : List Value} (hk : alen w = some k) (hs : asrc H size k w = some new) (hn : Rows F ρ H size k g new) (hb : (n + k) * bytes ≤ room) (hk0 : 0 < k)
  (hB : BOk F ρ H b (.vec size m f full)) (hv : PRel F ρ H (.exv size b n) s) (hnm : n ≤ m) :
  ∃ u H' ρ', aappend false size bytes H s w = some (u, H') ∧ Step F ρ ds H ρ' (hp ++ [.vec size (n + k) (fun j => if j < n then f j else g (j - n)) true]) H' ∧ PRel F ρ' H' (.vec size hp.length (n + k)) u ∧ Stab [] ρ hp H H' := by
 have ho : new.all oneCell = true := List.all_eq_true.2 hn.one
 have hc : ¬ (new.all oneCell = false ∨ room < (n + k) * bytes) := by rw [ho]; simp; exact hb
 cases hv with
 | fr h => cases h
 | exvz hz h0 =>
   subst h0
   simpa using app_nil (g := fun j => if j < 0 then f j else g (j - 0)) hr hk hs (by simpa using hn) (by simpa using hb) true
 | @exv _ _ _ a ce hva hnc =>
   rcases hB with ⟨hz, _⟩ | ⟨a', ce', vs, r1, r2, r3, r4, r5, r6, r7, r8, r9, r10⟩
   ·rw [hva] at hz; cases hz
   rw [hva] at r1; cases r1
   have hms := Nat.mul_le_mul_right size hnc
   have happ : Rows F ρ H size (n + k) (fun j => if j < n then f j else g (j - n)) (vs.take (n * size) ++ new) := hn.app (m := m) (fun i hi => r9 i (by omega)) (fun i j c v hi => r10 i j c v (by omega)) r4 (by omega)
   refine ⟨.slice (some ⟨Vec.size H, 0, none⟩) (n + k) (2 * (n + k)), anew H (vs.take (n * size) ++ new), ρ.upd hp.length (some (Vec.size H, 2 * (n + k))), ?_, rel_new hr fun hle hl => ?_, .vec (PR.upd_same _ _ _) (by omega), stab_new hr _ _⟩
   ·simp only [aappend, hk, hs]
    rw [if_neg hc, if_neg (by omega), if_neg (by omega)]
    simp only [r3]
    rw [if_pos (by omega), if_pos (by omega), List.drop_zero]
   ·have happ' := happ.mono hle hl
    exact .inr ⟨_, _, _, PR.upd_same _ _ _, nf hr, get_anew_same _ _, happ'.one, by omega, by omega, fun _ => by omega, by rw [show 2 * (n + k) / 2 = n + k by omega]; exact happ'.len, happ'.each, happ'.cell⟩
theorem app_fzx (hr : Rel F ρ hp ds H) {size bytes k n : Nat} {f g : Nat → List PV} {w s : Value} {new : List Value} (hk : alen w = some k) (hs : asrc H size k w = some new) (hn : Rows F ρ H size k g new) (hb : (n + k) * bytes ≤ room) (hk0 : 0 < k)
  (hv : PRel F ρ H (.fzx size n f) s) :
  ∃ u H' ρ', aappend false size bytes H s w = some (u, H') ∧ Step F ρ ds H ρ' (hp ++ [.vec size (n + k) (fun j => if j < n then f j else g (j - n)) true]) H' ∧ PRel F ρ' H' (.vec size hp.length (n + k)) u ∧ Stab [] ρ hp H H' := by
 have ho : new.all oneCell = true := List.all_eq_true.2 hn.one
 have hc : ¬ (new.all oneCell = false ∨ room < (n + k) * bytes) := by rw [ho]; simp; exact hb
 cases hv with
 | fr h =>
   cases h with
   | fzxn =>
     simpa using app_nil (g := fun j => if j < 0 then f j else g (j - 0)) hr hk hs (by simpa using hn) (by simpa using hb) true
   | @fzx _ _ _ a off vs w' lo' hF hg hl hsz h1 hcc =>
     have happ : Rows F ρ H size (n + k) (fun j => if j < n then f j else g (j - n)) ((vs.drop off).take (n * size) ++ new) := by
      have := hn.app (m := n) (vs := vs.drop off) (f := f) (fun i hi => hsz i hi) (fun i j c v hi q1 q2 => hcc i j c v hi q1 (by rw [List.getElem?_drop] at q2; rw [Nat.add_assoc]; exact q2)) (fun v hv => h1 v (List.mem_of_mem_drop hv)) (by rw [List.length_drop]; omega)
      exact this
     refine ⟨.slice (some ⟨Vec.size H, 0, none⟩) (n + k) (2 * (n + k)), anew H ((vs.drop off).take (n * size) ++ new), ρ.upd hp.length (some (Vec.size H, 2 * (n + k))), ?_, rel_new hr fun hle hl => ?_, .vec (PR.upd_same _ _ _) (by omega), stab_new hr _ _⟩
     ·simp only [aappend, hk, hs]
      rw [if_neg hc, if_neg (by omega), if_neg (by omega)]
      simp only [hg]
      rw [if_pos (by omega), if_pos (by omega)]
     ·have happ' := happ.mono hle hl
      exact .inr ⟨_, _, _, PR.upd_same _ _ _, nf hr, get_anew_same _ _, happ'.one, by omega, by omega, fun _ => by omega, by rw [show 2 * (n + k) / 2 = n + k by omega]; exact happ'.len, happ'.each, happ'.cell⟩
theorem app_vec (hr : Rel F ρ hp ds H) {size bytes k b n m : Nat} {f g : Nat → List PV} {full full' : Bool} {w s : Value} {new : List Value} (hk : alen w = some k) (hs : asrc H size k w = some new) (hn : Rows F ρ H size k g new) (hb : (n + k) * bytes ≤ room)
  {B : PB} (hbk : hp[b]? = some B) (hBd : B ≠ .dead) (hB : BOk F ρ H b (.vec size m f full)) (hv : PRel F ρ H (.vec size b n) s) (hnm : n ≤ m) (hfull : (full = true ∧ n = m) ∨ (full' = false ∧ k = 1)) :
  ∃ u H' ρ', aappend false size bytes H s w = some (u, H') ∧ Step F ρ ds H ρ' (hp.set b .dead ++ [.vec size (n + k) (fun j => if j < n then f j else g (j - n)) full']) H' ∧ PRel F ρ' H' (.vec size hp.length (n + k)) u ∧ Stab [b] ρ hp H H' := by
 have ho : new.all oneCell = true := List.all_eq_true.2 hn.one
 have hc : ¬ (new.all oneCell = false ∨ room < (n + k) * bytes) := by rw [ho]; simp; exact hb
 have hr' := rel_kill hr b
 have hlen : (hp.set b .dead).length = hp.length := List.length_set ..
 cases hv with
 | fr h => cases h
 | vecz hz h0 =>
   subst h0
   obtain ⟨u, H', ρ', q1, q2, q3, q4⟩ := app_nil (g := fun j => if j < 0 then f j else g (j - 0)) hr' hk hs (by simpa using hn) (by simpa using hb) full'
   rw [hlen] at q3
   refine ⟨u, H', ρ', q1, by simpa using q2, by simpa using q3, fun b' B a e h1 h2 h3 h4 => ?_⟩
   have hne : b ≠ b' := fun x => h3 (by simp [x])
   exact q4 b' B a e (by rw [List.getElem?_set_ne hne]; exact h1) h2 (by simp) h4
 | @vec _ _ _ a ce hva hnc =>
   rcases hB with ⟨hz, _⟩ | ⟨a', ce', vs, r1, r2, r3, r4, r5, r6, r7, r8, r9, r10⟩
   ·rw [hva] at hz; cases hz
   rw [hva] at r1; cases r1
   have hfree := free_of hr hbk hBd hva r2
   have hms := Nat.mul_le_mul_right size hnc
   have hst : ∀ {X : Blk} {H' : AH V}, (∀ c, c < Vec.size H → c ≠ a → Vec.get H' c = Vec.get H c) → Stab [b] ρ hp H H' := fun hX b' B a' e' h1 h2 h3 h4 => hX a' (hr.own _ _ _ h4) fun x => by
    subst x
    have := hr.inj b b' _ B a' _ e' hbk h1 hBd h2 hva h4
    subst this
    simp at h3
   have happ : Rows F ρ H size (n + k) (fun j => if j < n then f j else g (j - n)) (vs.take (n * size) ++ new) := hn.app (m := m) (fun i hi => r9 i (by omega)) (fun i j c v hi => r10 i j c v (by omega)) r4 (by omega)
   by_cases hin : n + k ≤ ce / 2
   ·-- in place
    have hks : n * size + k * size ≤ vs.length := by
     have := Nat.mul_le_mul_right size hin
     rw [Nat.add_mul] at this; omega
    have hfit : n * size + new.length ≤ vs.length := by rw [hn.len]; exact hks
    have hal := Vec.get_lt _ _ _ r3
    refine ⟨.slice (some ⟨a, 0, none⟩) (n + k) ce, Vec.set H a (.arr (splice vs (n * size) new) true 0), ρ.upd hp.length (some (a, ce)), ?_, ?_, .vec (PR.upd_same _ _ _) hin, hst (X := .dead) fun c _ hc => get_set_ne (Ne.symm hc)⟩
    ·simp only [aappend, hk, hs]
     rw [if_neg hc, if_pos hin]
     simp only [aput', r3, Nat.zero_add]
     rw [if_pos ⟨Nat.zero_le _, hfit, ho⟩]
    ·rw [← hlen]
     refine rel_push hr' (by rw [Vec.size_set]; omega) (fun c hc hnf => get_set_ne fun x => hnf (x ▸ hfree)) (fun a' e h => by cases h; exact ⟨by rw [Vec.size_set]; exact hal, .inr hfree⟩) fun hle hl => ?_
     have happ' := happ.mono hle hl
     refine .inr ⟨a, ce, _, by rw [hlen]; exact PR.upd_same _ _ _, r2, get_set_same hal, splice_one r4 hn.one, r5, hin, fun hf => ?_, by rw [splice_length]; exact r8, happ.each, fun i j c v hi c1 c2 => ?_⟩
     ·rcases hfull with ⟨h1, h2⟩ | ⟨h1, h2⟩
      ·have := r7 h1; omega
      ·rw [h1] at hf; cases hf
     ·refine happ'.cell i j c v hi c1 ?_
      have hj : j < size := by rw [← happ.each i hi]; exact (List.getElem?_eq_some_iff.1 c1).1
      have hrow := row_le (sz := size) hi
      rw [Nat.add_mul] at hrow
      rw [splice_get _ _ _ _ hfit] at c2
      by_cases h3 : n * size ≤ i * size + j
      ·rw [if_pos ⟨h3, by rw [hn.len]; omega⟩] at c2
       rw [List.getElem?_append_right (by rw [List.length_take]; omega), List.length_take, Nat.min_eq_left (by omega)]
       exact c2
      ·rw [if_neg (by omega)] at c2
       rw [List.getElem?_append_left (by rw [List.length_take]; omega), List.getElem?_take, if_pos (by omega)]
       exact c2
   ·-- grown
    have hk0 : ¬ k = 0 := by omega
    have hnc' : n = ce / 2 := by
     rcases hfull with ⟨h1, h2⟩ | ⟨h1, h2⟩
     ·have := r7 h1; omega
     ·omega
    have hnl : n * size = vs.length := by rw [r8, ← hnc']
    have hold : (vs.drop 0).take (n * size) = vs.take (n * size) := by rw [List.drop_zero]
    have fin : ∀ {H' : AH V}, Vec.size H' = Vec.size H → (∀ c, c < Vec.size H → c ≠ a → Vec.get H' c = Vec.get H c) → Step F ρ ds H (ρ.upd hp.length (some (Vec.size H, 2 * (n + k)))) (hp.set b .dead ++ [.vec size (n + k) (fun j => if j < n then f j else g (j - n)) full']) (anew H' (vs.take (n * size) ++ new)) := by
     intro H' hsz hkeep
     have hgn : Vec.get (anew H' (vs.take (n * size) ++ new)) (Vec.size H) = some (.arr (vs.take (n * size) ++ new) true 0) := by rw [← hsz]; exact get_anew_same _ _
     rw [← hlen]
     refine rel_push hr' (by rw [size_anew]; omega) (fun c hc hnf => ?_) (fun a' e h => by cases h; exact ⟨by rw [size_anew]; omega, .inl (Nat.le_refl _)⟩) fun hle hl => ?_
     ·rw [get_anew_lt (by omega)]
      exact hkeep c hc fun x => hnf (x ▸ hfree)
     ·have happ' := happ.mono hle hl
      exact .inr ⟨_, _, _, by rw [hlen]; exact PR.upd_same _ _ _, nf hr, hgn, happ'.one, by omega, by omega, fun _ => by omega, by rw [show 2 * (n + k) / 2 = n + k by omega]; exact happ'.len, happ'.each, happ'.cell⟩
    by_cases hodd : ce % 2 = 1
    ·refine ⟨.slice (some ⟨Vec.size H, 0, none⟩) (n + k) (2 * (n + k)), anew H (vs.take (n * size) ++ new), _, ?_, fin rfl (fun _ _ _ => rfl), .vec (PR.upd_same _ _ _) (by omega), hst (X := .dead) fun c hc _ => get_anew_lt hc⟩
     simp only [aappend, hk, hs]
     rw [if_neg hc, if_neg hin, if_neg hk0]
     simp only [r3, Nat.zero_add]
     rw [if_pos (by omega), if_pos hodd, hold]
    ·refine ⟨.slice (some ⟨Vec.size H, 0, none⟩) (n + k) (2 * (n + k)), anew (Vec.set H a .dead) (vs.take (n * size) ++ new), _, ?_, fin (Vec.size_set ..) (fun c _ hc => get_set_ne (Ne.symm hc)), .vec (PR.upd_same _ _ _) (by omega), hst (X := .dead) fun c hc hca => ?_⟩
     ·simp only [aappend, hk, hs]
      rw [if_neg hc, if_neg hin, if_neg hk0]
      simp only [r3, Nat.zero_add]
      have e5 : ¬ (ce = 0 ∨ True = False ∨ 0 ≠ 0 ∨ n ≠ ce / 2 ∨ n * size ≠ vs.length) := by
       rintro (h | h | h | h | h)
       ·exact r5 h
       ·simp at h
       ·exact h rfl
       ·exact h hnc'
       ·exact h hnl
      rw [if_pos (by omega), if_neg hodd, if_neg (by simpa using e5), hold]
      simp
     ·rw [get_anew_lt (by rw [Vec.size_set]; exact hc)]
      exact get_set_ne (Ne.symm hca)
theorem append_ok (hr : Rel F ρ hp ds H) (hev : EvOk F ρ H ev ea) (share : Bool) (size bytes : Nat) (s x : Src) : EOk F ρ ds hp H (pmod (.append share size bytes s x) ev) (pappend hp share size bytes (ev s) (ev x)) (x2 (aappend share size bytes H) ea s x) := by
 unfold pappend
 simp only [force_eq, fnat_eq]
 split
 ·next k g q e0 =>
  split
  ·next e1 =>
   refine .of fun hq => ?_
   obtain ⟨hq, hb, _⟩ := hq
   obtain ⟨w, new, h1, h2, h3, h4⟩ := src_ok hr hev e0 hq
   obtain ⟨u, H', ρ', a1, a2, a3, a4⟩ := app_nil hr h2 h3 h4 hb true
   refine ⟨u, H', ρ', by simp only [x2, s_of hev e1, h1]; exact a1, a2, a3, ?_⟩
   have : pmod (.append false size bytes s x) ev = [] := by simp only [pmod, e1]
   rw [this]; exact a4
  ·next b n e1 =>
   obtain ⟨sv, s1, s2⟩ := hev _ _ e1
   have hmd : pmod (.append false size bytes s x) ev = [b] := by simp only [pmod, e1]
   split
   ·next m f e2 =>
    refine .of fun hq => ?_
    obtain ⟨hq, rfl, rfl, hb, _⟩ := hq
    obtain ⟨w, new, h1, h2, h3, h4⟩ := src_ok hr hev e0 hq
    have hB : BOk F ρ H b (.vec size 0 f true) := by
     rcases hr.blk _ _ e2 with x | ⟨a, ce, vs, r1, r2, r3, r4, r5, r6, r7, r8, r9, r10⟩
     ·exact .inl x
     ·exact .inr ⟨a, ce, vs, r1, r2, r3, r4, r5, r6, r7, by rw [r8, ← r7 rfl]; simp, fun i hi => by omega, fun i j c v hi => by omega⟩
    have s2' : PRel F ρ H (.vec size b 0) sv := by
     cases s2 with
     | fr h => cases h
     | vec h hn => exact .vec h hn
     | vecz h hn => exact .vecz h hn
    obtain ⟨u, H', ρ', a1, a2, a3, a4⟩ := app_vec hr (full' := true) h2 h3 h4 hb e2 (by simp) hB s2' (by omega) (.inl ⟨rfl, rfl⟩)
    exact ⟨u, H', ρ', by simp only [x2, s1, h1]; exact a1, a2, a3, hmd ▸ a4⟩
   ·exact .no
  ·next sz b n _ e1 =>
   obtain ⟨sv, s1, s2⟩ := hev _ _ e1
   have hmd : pmod (.append false size bytes s x) ev = [b] := by simp only [pmod, e1]
   split
   ·next sz' m f full e2 =>
    split
    ·refine .of fun hq => ?_
     obtain ⟨hq, hnm, rfl, rfl, hb, _⟩ := hq
     obtain ⟨w, new, h1, h2, h3, h4⟩ := src_ok hr hev e0 hq
     obtain ⟨u, H', ρ', a1, a2, a3, a4⟩ := app_vec hr (full' := true) h2 h3 h4 hb e2 (by simp) (hr.blk _ _ e2) s2 (by omega) (.inl ⟨rfl, hnm⟩)
     exact ⟨u, H', ρ', by simp only [x2, s1, h1]; exact a1, a2, a3, hmd ▸ a4⟩
    ·refine .of fun hq => ?_
     obtain ⟨hq, rfl, hnm, rfl, rfl, hb, _⟩ := hq
     obtain ⟨w, new, h1, h2, h3, h4⟩ := src_ok hr hev e0 hq
     obtain ⟨u, H', ρ', a1, a2, a3, a4⟩ := app_vec hr (full' := false) h2 h3 h4 hb e2 (by simp) (hr.blk _ _ e2) s2 (by omega) (.inr ⟨rfl, rfl⟩)
     exact ⟨u, H', ρ', by simp only [x2, s1, h1]; exact a1, a2, a3, hmd ▸ a4⟩
   ·exact .no
  ·next sz b n e1 =>
   obtain ⟨sv, s1, s2⟩ := hev _ _ e1
   have hmd : pmod (.append false size bytes s x) ev = [] := by simp only [pmod, e1]
   split
   ·next sz' m f full e2 =>
    refine .of fun hq => ?_
    obtain ⟨hq, hk0, hnm, rfl, rfl, hb, _⟩ := hq
    obtain ⟨w, new, h1, h2, h3, h4⟩ := src_ok hr hev e0 hq
    obtain ⟨u, H', ρ', a1, a2, a3, a4⟩ := app_exv hr h2 h3 h4 hb hk0 (hr.blk _ _ e2) s2 hnm
    exact ⟨u, H', ρ', by simp only [x2, s1, h1]; exact a1, a2, a3, hmd ▸ a4⟩
   ·exact .no
  ·next sz n row e1 =>
   obtain ⟨sv, s1, s2⟩ := hev _ _ e1
   have hmd : pmod (.append false size bytes s x) ev = [] := by simp only [pmod, e1]
   refine .of fun hq => ?_
   obtain ⟨hq, hk0, rfl, hb, _⟩ := hq
   obtain ⟨w, new, h1, h2, h3, h4⟩ := src_ok hr hev e0 hq
   obtain ⟨u, H', ρ', a1, a2, a3, a4⟩ := app_fzx hr h2 h3 h4 hb hk0 s2
   exact ⟨u, H', ρ', by simp only [x2, s1, h1]; exact a1, a2, a3, hmd ▸ a4⟩
  ·exact .no
 ·exact .no
theorem eff_ok (hr : Rel F ρ hp ds H) (hev : EvOk F ρ H ev ea) {op : AOp Src} {v : PV} {q : Prop} (h : peff op ev hp = some (v, hp', q)) (hq : q) : ∃ w H' ρ', aexec P cl op ea H = some (w, H') ∧ Step F ρ ds H ρ' hp' H' ∧ PRel F ρ' H' v w ∧ Stab (pmod op ev) ρ hp H H' := by
 cases op with
 | store n a x => exact store_ok hr hev n a x v hp' q h hq
 | alloc cs =>
   simp only [peff, force_eq, fnat_eq] at h
   cases hb : cs.all oneCell with
   | false => rw [hb] at h; cases h
   | true =>
     rw [hb] at h
     cases h
     exact alloc_ok hr (rels_s cs) (List.all_eq_true.1 hb)
 | box x =>
   simp only [peff, force_eq, fnat_eq] at h
   split at h
   ·next u e =>
    cases hb : (pcs u).all okc with
    | false => rw [hb] at h; cases h
    | true =>
      rw [hb] at h
      cases h
      obtain ⟨w, h1, h2⟩ := hev _ _ e
      obtain ⟨q1, q2⟩ := pcs_ok h2 hb
      obtain ⟨u', H', ρ', a1, a2⟩ := alloc_ok (md := pmod (.box x) ev) hr q1 q2
      refine ⟨u', H', ρ', ?_, a2⟩
      simp only [aexec, x1, h1, fBox]
      rw [if_pos (List.all_eq_true.2 q2)]
      exact a1
   ·cases h
 | mkarr n cs ps => exact mkarr_ok hr hev n cs ps _ v hp' q h hq
 | mkslice zero bytes l c => exact mkslice_ok hr hev zero bytes l c _ v hp' q h hq
 | append share size bytes s x => exact append_ok hr hev share size bytes s x v hp' q h hq
 | _ => cases h
end
end Go.Proofs.Ytggaimcopbjdiaa.AM
namespace Go.Proofs.Ytggaimcopbjdiaa.AM
section
variable {V : Type → Type} [Vec V] {E : Env V} {F F' F0 : Nat → Prop} {ρ ρ' ρ0 : PR} {H H' H0 : AH V} {hp hp' hp0 : PH} {ds ds' : List Nat} {ev : Src → Option PV} {ea : Src → Option Value} {P : Program} {cl : Value → List Value → AH V → Option (Value × AH V)} {T L : List PV} {Ta La : List Value} {l0 : Nat} {st st' : PS} {sn : List (AH V)}
structure DI (F0 : Nat → Prop) (ρ0 : PR) (hp0 : PH) (H0 : AH V) (l0 : Nat) (F : Nat → Prop) (ρ : PR) (H : AH V) (T : List PV) (Ta : List Value) (st : PS) (La : List Value) (sn : List (AH V)) : Prop where
 fle : FLe F0 H0 F H
 rle : RLe' ρ0 ρ
 hh : HOk F0 ρ0 hp0 H0
 T : PRels F0 ρ0 H0 T Ta
 L : PRels F ρ H st.L La
 O : ∀ (d : Nat) (v : PV) (w : Value), st.O[d]? = some true → st.L[d]? = some v → La[d]? = some w → PRel F0 ρ0 H0 v w
 cnt : sn.length = st.cnt + 1
 len : l0 ≤ hp0.length
 un' : ∀ b B, b < l0 → b ∉ st.md → hp0[b]? = some B → st.hp[b]? = some B
 sn : ∀ K, K ∈ H :: sn → (∀ a, F0 a → Vec.get K a = Vec.get H0 a) ∧ ∀ b B a e, b < l0 → b ∉ st.md → hp0[b]? = some B → B ≠ .dead → ρ0 b = some (some (a, e)) → Vec.get K a = Vec.get H0 a
theorem DI.un (hd : DI F0 ρ0 hp0 H0 l0 F ρ H T Ta st La sn) (b : Nat) (h1 : b < l0) (h2 : b ∉ st.md) : st.hp[b]? = hp0[b]? := by
 have hl := hd.len
 have h3 : hp0[b]? = some (hp0[b]'(by omega)) := List.getElem?_eq_getElem _
 rw [hd.un' b _ h1 h2 h3, h3]
theorem sev_ok (hT : PRels F ρ H T Ta) (hL : PRels F ρ H L La) : EvOk F ρ H (psev T L) (sev Ta La) := by
 intro x v h
 cases x with
 | tmp i => exact hT.get h
 | loc d => exact hL.get h
 | const c =>
   simp only [psev] at h
   split at h
   ·next cs =>
    cases h
    exact ⟨_, rfl, by have := rels_s (F := F) (ρ := ρ) (H := H) cs.toList; exact .agg this.len this.at'⟩
   ·cases h; exact ⟨_, rfl, .fr (.s _)⟩
 | func f => cases h; exact ⟨_, rfl, .fn (l := []) (m := []) rfl (fun j c v q => by simp at q) rfl (fun j c v q => by simp at q)⟩
theorem wanted_ok (hev : EvOk F ρ H (psev T L) (sev Ta La)) {g : Option (Src × Bool)} {b : Bool} (h : pwanted T L g = some b) : awanted Ta La g = b := by
 cases g with
 | none => cases h; rfl
 | some p =>
   obtain ⟨s, want⟩ := p
   simp only [pwanted] at h
   split at h
   ·next t e =>
    have := s_of hev e
    simp only [awanted, this]
    split at h <;> cases h <;> rfl
   ·next v hv e =>
    have := s_of hev e
    cases h
    simp only [awanted, this]
    split
    ·next t et => cases et; exact absurd rfl (hv t)
    ·rfl
   ·cases h
def evO (O : List Bool) (ev : Src → Option PV) : Src → Option PV := fun s => match srcO O s with
 | true => ev s
 | false => match ev s with | some (.s a) => some (.s a) | _ => none
theorem evO_t {O : List Bool} {s : Src} (h : srcO O s = true) : evO O ev s = ev s := by simp only [evO, h]
theorem evO_s {O : List Bool} {s : Src} {a : Value} (h : ev s = some (.s a)) : evO O ev s = some (.s a) := by
 unfold evO
 split
 ·exact h
 ·rw [h]
theorem evO_ok (hd : DI F0 ρ0 hp0 H0 l0 F ρ H T Ta st La sn) : EvOk F0 ρ0 H0 (evO st.O (psev T st.L)) (sev Ta La) := by
 intro x v h
 have hev := sev_ok (hd.T.mono hd.fle hd.rle) hd.L
 unfold evO at h
 split at h
 ·next hO =>
  cases x with
  | tmp i => exact hd.T.get h
  | loc d =>
    obtain ⟨w, h1, h2⟩ := hd.L.get h
    refine ⟨w, h1, hd.O d v w ?_ h h1⟩
    simp only [srcO] at hO
    cases hq : st.O[d]? with
    | none => rw [hq] at hO; cases hO
    | some b => rw [hq] at hO; simp at hO; rw [hO]
  | const c => exact sev_ok hd.T (PRels.nil (F := F0) (ρ := ρ0) (H := H0)) (.const c) v h
  | func f => simp [srcO] at hO
 ·split at h
  ·next a e =>
   cases h
   exact ⟨a, s_of hev e, .fr (.s _)⟩
  ·cases h
theorem bytes_self (s : ByteArray) : veq1 (.string s) (.string s) = true := by
 show (s == s) = true
 obtain ⟨d⟩ := s
 show (d == d) = true
 simp
theorem vq1_ok {v : PV} {w : Value} (h : PRel F ρ H v w) (hv : vq1 v = true) : veq1 w w = true ∧ oneCell w = true := by
 cases h with
 | fr h =>
   cases h with
   | junk => cases hv
   | s =>
     simp only [vq1] at hv
     split at hv <;> first | cases hv; done | (refine ⟨?_, rfl⟩; simp [veq1]; done) | exact ⟨bytes_self _, rfl⟩
   | nil h => rcases h with rfl | ⟨b, o, s, ce, rfl⟩ <;> simp [veq1, oneCell]
   | frz => simp [veq1, oneCell]
   | fptr => simp [veq1, oneCell]
   | fzxn => cases hv
   | fzx => cases hv
 | ptr => simp [veq1, oneCell]
 | eptr => simp [veq1, oneCell]
 | vec => simp [veq1, oneCell]
 | vecz => simp [veq1, oneCell]
 | sub => simp [veq1, oneCell]
 | exv => simp [veq1, oneCell]
 | exvz => simp [veq1, oneCell]
 | tbv => cases hv
 | que => cases hv
 | subz => simp [veq1, oneCell]
 | yld => cases hv
 | agg => cases hv
 | tup => cases hv
 | fn => cases hv
theorem veqs_self : ∀ {l : List Value}, (∀ u, u ∈ l → veq1 u u = true) → veqs l l = true
 | [], _ => rfl
 | a :: r, h => by simp only [veqs, h a (List.mem_cons_self ..), veqs_self fun u hu => h u (List.mem_cons_of_mem _ hu), Bool.and_self]
theorem vq_ok {v : PV} {w : Value} (h : PRel F ρ H v w) (hv : vq v = true) : veq w w = true := by
 by_cases hg : ∃ cs, v = .agg cs
 ·obtain ⟨cs, rfl⟩ := hg
  obtain ⟨l, rfl, hl⟩ := h.agg_inv
  simp only [veq]
  refine veqs_self fun u hu => ?_
  obtain ⟨j, hj, rfl⟩ := List.mem_iff_getElem.1 hu
  have hj' : j < cs.length := by rw [hl.len]; simpa using hj
  exact (vq1_ok (hl.at' j cs[j] _ (List.getElem?_eq_getElem hj') (List.getElem?_eq_getElem (by simpa using hj))) (List.all_eq_true.1 hv _ (List.getElem_mem hj'))).1
 ·have hp : vq v = vq1 v := by
   unfold vq
   split
   ·next cs => exact absurd ⟨cs, rfl⟩ hg
   ·rfl
  rw [hp] at hv
  obtain ⟨h1, h2⟩ := vq1_ok h hv
  cases w <;> first | exact h1 | cases h2
  next fv fs cs => cases fv <;> simp [veq1] at h1 <;> simp [veq, h1, veqs]
theorem aload_same {K : AH V} {n : Option Nat} {b o : Nat} (h : Vec.get K b = Vec.get H b) : aload K n (.pointer (some ⟨b, o, none⟩)) = aload H n (.pointer (some ⟨b, o, none⟩)) := by
 simp only [aload, arow, h]
theorem fresh_ok (hd : DI F0 ρ0 hp0 H0 l0 F ρ H T Ta st La sn) {a : Src} (hf : fresh l0 st.md st.O a (psev T st.L a) = true) {n : Option Nat} {v : PV} {q : Prop} (hl : pload st.hp n (psev T st.L a) = some (v, q)) (hq : q) :
  ∃ p w, sev Ta La a = some p ∧ PRel F0 ρ0 H0 v w ∧ ∀ K, K ∈ H :: sn → aload K n p = some w := by
 have hev0 := evO_ok hd
 have key : ∀ {pv : PV}, psev T st.L a = some pv → srcO st.O a = true → pload hp0 n (psev T st.L a) = some (v, q) → (∀ p, PRel F0 ρ0 H0 pv p → ∀ K, K ∈ H :: sn → aload K n p = aload H0 n p) → ∃ p w, sev Ta La a = some p ∧ PRel F0 ρ0 H0 v w ∧ ∀ K, K ∈ H :: sn → aload K n p = some w := by
  intro pv h1 h2 h3 h4
  have he : evO st.O (psev T st.L) a = some pv := by rw [evO_t h2]; exact h1
  obtain ⟨p, r1, r2⟩ := hev0 _ _ he
  have h3' : pload hp0 n (evO st.O (psev T st.L) a) = some (v, q) := by rw [evO_t h2]; exact h3
  obtain ⟨w, s1, s2⟩ := load_ok hev0 hd.hh n a v q h3' hq
  simp only [x1, r1] at s1
  exact ⟨p, w, r1, s2, fun K hK => (h4 p r2 K hK).trans s1⟩
 unfold fresh at hf
 split at hf
 ·next sz k row i off e =>
  refine key e hf ?_ fun p hp K hK => ?_
  ·rw [e] at hl ⊢; exact hl
  ·cases hp.fptr_inv with
   | fptr hF hg hi hl hs ho hc => exact aload_same ((hd.sn K hK).1 _ hF)
 ·next b off e =>
  simp only [Bool.and_eq_true, Nat.blt_eq, Bool.not_eq_true', List.contains_eq_mem, decide_eq_false_iff_not] at hf
  obtain ⟨f1, f2, f3⟩ := hf
  have hu := hd.un b f1 f2
  have hld : ∃ B, hp0[b]? = some B ∧ B ≠ .dead := by
   rw [e] at hl
   simp only [pload] at hl
   split at hl
   ·next cs eq => exact ⟨_, hu ▸ eq, by simp⟩
   ·cases hl
  obtain ⟨B, hB, hBd⟩ := hld
  refine key e f3 ?_ fun p hp K hK => ?_
  ·rw [e] at hl ⊢
   simp only [pload] at hl ⊢
   rw [← hu]; exact hl
  ·cases hp with
   | fr h => cases h
   | ptr h => exact aload_same ((hd.sn K hK).2 b B _ _ f1 f2 hB hBd h)
 ·next sz b i off e =>
  simp only [Bool.and_eq_true, Nat.blt_eq, Bool.not_eq_true', List.contains_eq_mem, decide_eq_false_iff_not] at hf
  obtain ⟨f1, f2, f3⟩ := hf
  have hu := hd.un b f1 f2
  have hld : ∃ B, hp0[b]? = some B ∧ B ≠ .dead := by
   rw [e] at hl
   simp only [pload] at hl
   split at hl
   ·next sz' m f full eq => exact ⟨_, hu ▸ eq, by simp⟩
   ·cases hl
  obtain ⟨B, hB, hBd⟩ := hld
  refine key e f3 ?_ fun p hp K hK => ?_
  ·rw [e] at hl ⊢
   simp only [pload] at hl ⊢
   rw [← hu]; exact hl
  ·cases hp with
   | fr h => cases h
   | eptr h => exact aload_same ((hd.sn K hK).2 b B _ _ f1 f2 hB hBd h)
 ·cases hf
theorem opO_ok (hd : DI F0 ρ0 hp0 H0 l0 F ρ H T Ta st La sn) {op : AOp Src} {v : PV} {q : Prop} {w : Value} (ho : opO l0 st T op = true) (h : pval op (psev T st.L) st.hp = some (v, q)) (hq : q) (hw : aexec P cl op (sev Ta La) H = some (w, H)) : PRel F0 ρ0 H0 v w := by
 have hev0 := evO_ok hd
 have fin : ∀ {r : PVR} {s : Option Value}, VOk F0 ρ0 H0 r s → r = some (v, q) → withH H s = some (w, H) → PRel F0 ρ0 H0 v w := fun hv he hs => by
  obtain ⟨w', r1, r2⟩ := hv v q he hq
  rw [r1] at hs
  cases hs
  exact r2
 cases op with
 | mov x =>
   simp only [opO] at ho
   simp only [pval] at h
   split at h
   ·next u e =>
    cases h
    obtain ⟨w', r1, r2⟩ := hev0 x _ (by rw [evO_t ho]; exact e)
    simp only [aexec, r1, withH, Option.some.injEq, Prod.mk.injEq] at hw
    rw [← hw.1]; exact r2
   ·cases h
 | faddr off x => simp only [opO] at ho; exact fin (faddr_ok hev0 off x) (by rw [evO_t ho]; exact h) hw
 | nilchk x => simp only [opO] at ho; exact fin (nilchk_ok hev0 x) (by rw [evO_t ho]; exact h) hw
 | fld n off x => simp only [opO] at ho; exact fin (fld_ok hev0 n off x) (by rw [evO_t ho]; exact h) hw
 | iaddr size x i =>
   simp only [opO] at ho
   refine fin (iaddr_ok (hp := st.hp) hev0 size x i) ?_ hw
   rw [evO_t ho]
   simp only [pval] at h
   have hi : pnat (evO st.O (psev T st.L) i) = pnat (psev T st.L i) := by
    cases hp : psev T st.L i with
    | none =>
      unfold evO
      split
      ·rw [hp]
      ·rw [hp]
    | some u =>
      cases u with
      | s a => rw [evO_s hp]
      | _ =>
        simp only [piaddr, hp, pnat] at h
        cases h
   simp only [piaddr, hi] at h ⊢
   exact h
 | iarr len size x i =>
   simp only [opO] at ho
   refine fin (iarr_ok hev0 len size x i) ?_ hw
   rw [evO_t ho]
   simp only [pval] at h
   have hi : pnat (evO st.O (psev T st.L) i) = pnat (psev T st.L i) := by
    cases hp : psev T st.L i with
    | none =>
      unfold evO
      split
      ·rw [hp]
      ·rw [hp]
    | some u =>
      cases u with
      | s a => rw [evO_s hp]
      | _ =>
        simp only [piarr, hp, pnat] at h
        cases h
   simp only [piarr, hi] at h ⊢
   exact h
 | load n a =>
   simp only [opO] at ho
   obtain ⟨p, w', r1, r2, r3⟩ := fresh_ok hd ho h hq
   simp only [aexec, x1, r1, r3 H (List.mem_cons_self ..), withH, Option.some.injEq, Prod.mk.injEq] at hw
   rw [← hw.1]; exact r2
 | _ => cases ho
end
end Go.Proofs.Ytggaimcopbjdiaa.AM
namespace Go.Proofs.Ytggaimcopbjdiaa.AM
section
variable {V : Type → Type} [Vec V] {E : Env V} {F F' F0 : Nat → Prop} {ρ ρ' ρ0 : PR} {H H' H0 : AH V} {hp hp' hp0 : PH} {ds ds' : List Nat} {ev : Src → Option PV} {ea : Src → Option Value} {P : Program} {cl : Value → List Value → AH V → Option (Value × AH V)} {T L : List PV} {Ta La : List Value} {l0 : Nat} {st st' : PS} {sn : List (AH V)} {p : List Nat}
def Agree (p : List Nat) (ρ ρ' : PR) : Prop := ∀ b x, b ∈ p → ρ b = some x → ρ' b = some x
def GPost (p : List Nat) (T : List PV) (Ta : List Value) (F : Nat → Prop) (ρ : PR) (ds : List Nat) (H : AH V) (Q : List PV → PH → Prop) (La' : List Value) (H' : AH V) : Prop := ∃ F' ρ' L' hp', PExt F ρ ds H F' ρ' ds H' ∧ Agree p ρ ρ' ∧ Rel F' ρ' hp' ds H' ∧ PRels F' ρ' H' T Ta ∧ PRels F' ρ' H' L' La' ∧ Q L' hp'
def PRg (E : Env V) (p : List Nat) (dr : Bool) (T : List PV) (ops : List AOper) (l0 : Nat) (st : PS) (Q : List PV → PH → Prop) : Prop :=
 ∀ (F0 : Nat → Prop) (ρ0 : PR) (hp0 : PH) (H0 : AH V) (F : Nat → Prop) (ρ : PR) (H : AH V) (ds : List Nat) (Ta La : List Value) (sn : List (AH V)), Rel F ρ st.hp ds H → DI F0 ρ0 hp0 H0 l0 F ρ H T Ta st La sn →
  if dr = true then ADraws E Ta ops sn La H (GPost p T Ta F ρ ds H Q) else AOps E Ta ops La H (GPost p T Ta F ρ ds H Q)
theorem GPost.step {Q : List PV → PH → Prop} {La' : List Value} {H'' : AH V} (h : GPost p T Ta F' ρ' ds H' Q La' H'') (hx : PExt F ρ ds H F' ρ' ds H') (hl : Agree p ρ ρ') : GPost p T Ta F ρ ds H Q La' H'' := by
 obtain ⟨F'', ρ'', L', hp', h1, h2, h3, h4, h5⟩ := h
 exact ⟨F'', ρ'', L', hp', hx.trans h1, fun b x q1 q => h2 b x q1 (hl b x q1 q), h3, h4, h5⟩
theorem AOps.mono {Q R : List Value → AH V → Prop} {ops : List AOper} (h : AOps E Ta ops La H Q) (hq : ∀ L H, Q L H → R L H) : AOps E Ta ops La H R := by
 obtain ⟨n, L', H', h1, h2⟩ := h
 exact ⟨n, L', H', h1, hq _ _ h2⟩
theorem ADraws.mono {Q R : List Value → AH V → Prop} {ops : List AOper} (h : ADraws E Ta ops sn La H Q) (hq : ∀ L H, Q L H → R L H) : ADraws E Ta ops sn La H R := by
 obtain ⟨n, L', H', h1, h2⟩ := h
 exact ⟨n, L', H', h1, hq _ _ h2⟩
theorem prg_does {dr : Bool} {o : AOper} {ops : List AOper} {Q : List PV → PH → Prop} (hr : Rel F ρ st.hp ds H) (hd : DI F0 ρ0 hp0 H0 l0 F ρ H T Ta st La sn) (hw : awanted Ta La o.g = true)
  (h : ADoes E Ta La o.op H fun w H' => ∃ F' ρ' v hp', PExt F ρ ds H F' ρ' ds H' ∧ RLe' ρ ρ' ∧ Rel F' ρ' hp' ds H' ∧ PRel F' ρ' H' v w ∧ ∃ (b : Bool) (md : List Nat), (∀ m, m ∈ st.md → m ∈ md) ∧ (b = true → PRel F0 ρ0 H0 v w) ∧
   (∀ b B a e, st.hp[b]? = some B → B ≠ .dead → b ∉ md → ρ b = some (some (a, e)) → Vec.get H' a = Vec.get H a) ∧ (∀ b B, b < l0 → b ∉ md → st.hp[b]? = some B → hp'[b]? = some B) ∧
   (dr = true → loadOk Ta La sn o.lo o.op w = true) ∧ PRg E p dr T ops l0 ⟨v :: st.L, b :: st.O, hp', md, bif isEff o.op then st.cnt + 1 else st.cnt⟩ Q) :
  if dr = true then ADraws E Ta (o :: ops) sn La H (GPost p T Ta F ρ ds H Q) else AOps E Ta (o :: ops) La H (GPost p T Ta F ρ ds H Q) := by
 have next_ : ∀ (w : Value) (H' : AH V), (∃ F' ρ' v hp', PExt F ρ ds H F' ρ' ds H' ∧ RLe' ρ ρ' ∧ Rel F' ρ' hp' ds H' ∧ PRel F' ρ' H' v w ∧ ∃ (b : Bool) (md : List Nat), (∀ m, m ∈ st.md → m ∈ md) ∧ (b = true → PRel F0 ρ0 H0 v w) ∧
   (∀ b B a e, st.hp[b]? = some B → B ≠ .dead → b ∉ md → ρ b = some (some (a, e)) → Vec.get H' a = Vec.get H a) ∧ (∀ b B, b < l0 → b ∉ md → st.hp[b]? = some B → hp'[b]? = some B) ∧
   (dr = true → loadOk Ta La sn o.lo o.op w = true) ∧ PRg E p dr T ops l0 ⟨v :: st.L, b :: st.O, hp', md, bif isEff o.op then st.cnt + 1 else st.cnt⟩ Q) →
   (dr = true → loadOk Ta La sn o.lo o.op w = true) ∧ Vec.size H ≤ Vec.size H' ∧ (if dr = true then ADraws E Ta ops (bif isEff o.op then H' :: sn else sn) (w :: La) H' (GPost p T Ta F ρ ds H Q) else AOps E Ta ops (w :: La) H' (GPost p T Ta F ρ ds H Q)) := by
  rintro w H' ⟨F', ρ', v, hp', hx, hl, hr', hv, b, md, hmd, hb, hst, hun, hlo, hP⟩
  refine ⟨hlo, hx.size, ?_⟩
  have hd' : DI F0 ρ0 hp0 H0 l0 F' ρ' H' T Ta ⟨v :: st.L, b :: st.O, hp', md, bif isEff o.op then st.cnt + 1 else st.cnt⟩ (w :: La) (bif isEff o.op then H' :: sn else sn) := by
   have hnew : (∀ a, F0 a → Vec.get H' a = Vec.get H0 a) ∧ ∀ b B a e, b < l0 → b ∉ md → hp0[b]? = some B → B ≠ .dead → ρ0 b = some (some (a, e)) → Vec.get H' a = Vec.get H0 a := by
    obtain ⟨q1, q2⟩ := hd.sn H (List.mem_cons_self ..)
    refine ⟨fun a ha => (hx.fget a (hd.fle.mono a ha)).trans (q1 a ha), fun b B a e h1 h2 h3 h4 h5 => ?_⟩
    have hbm : b ∉ st.md := fun x => h2 (hmd b x)
    exact (hst b B a e ((hd.un b h1 hbm).trans h3) h4 h2 (hd.rle _ _ h5)).trans (q2 b B a e h1 hbm h3 h4 h5)
   refine ⟨hd.fle.trans hx.fle, fun b x q => hl b x (hd.rle b x q), hd.hh, hd.T, .cons hv (hd.L.mono hx.fle hl), ?_, ?_, hd.len, ?_, ?_⟩
   ·intro d u w' h1 h2 h3
    cases d with
    | zero =>
      simp only [List.getElem?_cons_zero, Option.some.injEq] at h1 h2 h3
      subst h1; subst h2; subst h3
      exact hb rfl
    | succ d =>
      simp only [List.getElem?_cons_succ] at h1 h2 h3
      exact hd.O d u w' h1 h2 h3
   ·cases isEff o.op
    ·exact hd.cnt
    ·simp [hd.cnt]
   ·intro b B h1 h2 h3
    exact hun b B h1 h2 (hd.un' b B h1 (fun x => h2 (hmd b x)) h3)
   ·intro K hK
    have : K = H' ∨ K ∈ H :: sn := by
     cases he : isEff o.op
     ·rw [he] at hK
      simp only [cond_false, List.mem_cons] at hK ⊢
      rcases hK with h | h
      ·exact .inl h
      ·exact .inr (.inr h)
     ·rw [he] at hK
      simp only [cond_true, List.mem_cons] at hK ⊢
      rcases hK with h | h | h
      ·exact .inl h
      ·exact .inl h
      ·exact .inr (.inr h)
    rcases this with rfl | h
    ·exact hnew
    ·obtain ⟨q1, q2⟩ := hd.sn K h
     exact ⟨q1, fun b B a e h1 h2 h3 h4 h5 => q2 b B a e h1 (fun x => h2 (hmd b x)) h3 h4 h5⟩
  have := hP F0 ρ0 hp0 H0 F' ρ' H' ds Ta (w :: La) _ hr' hd'
  cases dr with
  | true =>
    simp only [if_true] at this ⊢
    exact this.mono fun L H hg => hg.step hx (fun b x _ q => hl b x q)
  | false =>
    simp only [Bool.false_eq_true, if_false] at this ⊢
    exact this.mono fun L H hg => hg.step hx (fun b x _ q => hl b x q)
 obtain ⟨n, w, H', h1, h2⟩ := h
 obtain ⟨n1, n2, n3⟩ := next_ w H' h2
 cases dr with
 | true =>
   simp only [if_true] at n3 ⊢
   exact draws_cons hw ⟨n, w, H', h1, n1 rfl, n2, n3⟩
 | false =>
   simp only [Bool.false_eq_true, if_false] at n3 ⊢
   exact ops_cons hw ⟨n, w, H', h1, n3⟩
theorem prg_not {dr : Bool} {o : AOper} {ops : List AOper} {Q : List PV → PH → Prop} (hr : Rel F ρ st.hp ds H) (hd : DI F0 ρ0 hp0 H0 l0 F ρ H T Ta st La sn) (hw : awanted Ta La o.g = false)
  (hP : PRg E p dr T ops l0 ⟨.s undef :: st.L, false :: st.O, st.hp, st.md, bif isEff o.op then st.cnt + 1 else st.cnt⟩ Q) :
  if dr = true then ADraws E Ta (o :: ops) sn La H (GPost p T Ta F ρ ds H Q) else AOps E Ta (o :: ops) La H (GPost p T Ta F ρ ds H Q) := by
 have hd' : DI F0 ρ0 hp0 H0 l0 F ρ H T Ta ⟨.s undef :: st.L, false :: st.O, st.hp, st.md, bif isEff o.op then st.cnt + 1 else st.cnt⟩ (undef :: La) (bif isEff o.op then H :: sn else sn) := by
  refine ⟨hd.fle, hd.rle, hd.hh, hd.T, .cons (.fr (.s _)) hd.L, ?_, ?_, hd.len, hd.un', ?_⟩
  ·intro d u w' h1 h2 h3
   cases d with
   | zero => simp at h1
   | succ d =>
     simp only [List.getElem?_cons_succ] at h1 h2 h3
     exact hd.O d u w' h1 h2 h3
  ·cases isEff o.op
   ·exact hd.cnt
   ·simp [hd.cnt]
  ·intro K hK
   refine hd.sn K ?_
   cases he : isEff o.op
   ·rw [he] at hK; exact hK
   ·rw [he] at hK
    simp only [cond_true, List.mem_cons] at hK ⊢
    rcases hK with h | h | h
    ·exact .inl h
    ·exact .inl h
    ·exact .inr h
 have := hP F0 ρ0 hp0 H0 F ρ H ds Ta (undef :: La) _ hr hd'
 cases dr with
 | true =>
   simp only [if_true] at this ⊢
   exact draws_not hw this
 | false =>
   simp only [Bool.false_eq_true, if_false] at this ⊢
   exact ops_not hw this
theorem isHeap_load {op : AOp Src} (h : isHeap op = true) (T L : List Value) (sn : List (AH V)) (lo : Nat) (v : Value) : loadOk T L sn lo op v = true := by
 cases op <;> first | rfl | cases h
theorem peff_un {op : AOp Src} {ev : Src → Option PV} {hp hp' : PH} {v : PV} {q : Prop} (h : peff op ev hp = some (v, hp', q)) {b : Nat} (hb : b < hp.length) (hm : b ∉ pmod op ev) : hp'[b]? = hp[b]? := by
 cases op with
 | store n a x =>
   simp only [peff, pstore, force_eq, fnat_eq] at h
   simp only [pmod] at hm
   split at h
   ·next b' off v' e1 e2 =>
    rw [e1] at hm
    split at h
    ·cases hc : ((pcs v').all okc && (Nat.beq (pcs v').length n && Nat.ble (off + n) _)) with
     | false => rw [hc] at h; cases h
     | true => rw [hc] at h; cases h; rw [List.getElem?_set_ne (fun x => hm (by simp [x]))]
    ·cases h
   ·next sz b' i off v' e1 e2 =>
    rw [e1] at hm
    split at h
    ·cases hc : ((pcs v').all okc && ((pcs v').all nlb && (Nat.beq (pcs v').length n && Nat.ble (off + n) sz))) with
     | false => rw [hc] at h; cases h
     | true => rw [hc] at h; cases h; rw [List.getElem?_set_ne (fun x => hm (by simp [x]))]
    ·cases h
   ·cases h
 | alloc cs =>
   simp only [peff, force_eq, fnat_eq] at h
   cases hc : cs.all oneCell with
   | false => rw [hc] at h; cases h
   | true => rw [hc] at h; cases h; rw [List.getElem?_append_left hb]
 | box x =>
   simp only [peff, force_eq, fnat_eq] at h
   split at h
   ·next u e =>
    cases hc : (pcs u).all okc with
    | false => rw [hc] at h; cases h
    | true => rw [hc] at h; cases h; rw [List.getElem?_append_left hb]
   ·cases h
 | mkarr n cs ps =>
   simp only [peff, pmkarr, force_eq, fnat_eq] at h
   split at h
   ·split at h
    ·cases h; rw [List.getElem?_append_left hb]
    ·cases hc : (Nat.blt 0 n && (Nat.beq cs.length (n * (cs.length / n)) && cs.all oneCell)) with
     | false => rw [hc] at h; cases h
     | true => rw [hc] at h; cases h; rw [List.getElem?_append_left hb]
   ·split at h
    ·next c e =>
     cases hc : (Nat.blt 0 n && (Nat.beq c.length (n * (c.length / n)) && (c.all okc && c.all nlb))) with
     | false => rw [hc] at h; cases h
     | true => rw [hc] at h; cases h; rw [List.getElem?_append_left hb]
    ·cases h
   ·cases h
 | mkslice z by_ l c =>
   simp only [peff, pmkslice, force_eq, fnat_eq] at h
   split at h
   ·cases hc : z.all oneCell with
    | false => rw [hc] at h; cases h
    | true => rw [hc] at h; cases h; rw [List.getElem?_append_left hb]
   ·cases h
 | append sh size by_ s x =>
   simp only [peff, pappend, force_eq, fnat_eq] at h
   simp only [pmod] at hm
   split at h
   ·split at h
    ·cases h; rw [List.getElem?_append_left hb]
    ·next b' n e1 =>
     rw [e1] at hm
     split at h
     ·cases h
      rw [List.getElem?_append_left (by simpa using hb), List.getElem?_set_ne (fun x => hm (by simp [x]))]
     ·cases h
    ·next sz b' n _ e1 =>
     rw [e1] at hm
     split at h
     ·split at h
      ·cases h
       rw [List.getElem?_append_left (by simpa using hb), List.getElem?_set_ne (fun x => hm (by simp [x]))]
      ·cases h
       rw [List.getElem?_append_left (by simpa using hb), List.getElem?_set_ne (fun x => hm (by simp [x]))]
     ·cases h
    ·split at h
     ·cases h; rw [List.getElem?_append_left hb]
     ·cases h
    ·cases h; rw [List.getElem?_append_left hb]
    ·cases h
   ·cases h
 | _ => cases h
end
end Go.Proofs.Ytggaimcopbjdiaa.AM
namespace Go.Proofs.Ytggaimcopbjdiaa.AM
section
variable {V : Type → Type} [Vec V] {E : Env V} {F F' F0 : Nat → Prop} {ρ ρ' ρ0 : PR} {H H' H0 : AH V} {hp hp' hp0 : PH} {ds ds' : List Nat} {ev : Src → Option PV} {ea : Src → Option Value} {P : Program} {cl : Value → List Value → AH V → Option (Value × AH V)} {T L : List PV} {Ta La : List Value} {l0 : Nat} {st st' : PS} {sn : List (AH V)} {dr : Bool} {o : AOper} {ops : List AOper} {Q : List PV → PH → Prop} {p : List Nat}
theorem loadOk_fresh (hd : DI F0 ρ0 hp0 H0 l0 F ρ H T Ta st La sn) {op : AOp Src} {lo : Nat} {v : PV} {q : Prop} {w : Value} (hl : plOk l0 st T lo op v = true) (h : pval op (psev T st.L) st.hp = some (v, q)) (hq : q) (hw : aexec P cl op (sev Ta La) H = some (w, H)) : loadOk Ta La sn lo op w = true := by
 cases op with
 | load n a =>
   simp only [plOk] at hl
   have hev := sev_ok (hd.T.mono hd.fle hd.rle) hd.L
   cases hc : Nat.ble st.cnt lo with
   | true =>
     simp only [Nat.ble_eq] at hc
     have h0 : sn.length - 1 - lo = 0 := by rw [hd.cnt]; omega
     have : ∃ p, sev Ta La a = some p := by
      simp only [pval, pload] at h
      split at h
      ·next e => obtain ⟨w, r, _⟩ := hev _ _ e; exact ⟨w, r⟩
      ·next e => obtain ⟨w, r, _⟩ := hev _ _ e; exact ⟨w, r⟩
      ·next e => obtain ⟨w, r, _⟩ := hev _ _ e; exact ⟨w, r⟩
      ·cases h
     obtain ⟨p, hp⟩ := this
     simp only [loadOk, hp, stable, h0, List.take_zero, List.all_nil]
   | false =>
     rw [hc] at hl
     simp only [cond_false, Bool.and_eq_true] at hl
     obtain ⟨p, w', r1, r2, r3⟩ := fresh_ok hd hl.1 h hq
     simp only [aexec, x1, r1, r3 H (List.mem_cons_self ..), withH, Option.some.injEq, Prod.mk.injEq] at hw
     have hww : w' = w := hw.1
     subst hww
     exact loadOk_of r1 (vq_ok r2 hl.2) fun K hK => r3 K (List.mem_cons_of_mem _ (List.mem_of_mem_drop (List.mem_of_mem_take hK)))
 | _ => rfl
theorem not_eff {op : AOp Src} {ev : Src → Option PV} {hp : PH} {v : PV} {q : Prop} (h : pval op ev hp = some (v, q)) : isEff op = false := by
 cases op <;> first | rfl | cases h
theorem prg_step {q : Prop} (h : pstep dr l0 T o st = some (st', q)) (hq : q) (hP : PRg E p dr T ops l0 st' Q) : PRg E p dr T (o :: ops) l0 st Q := by
 intro F0 ρ0 hp0 H0 F ρ H ds Ta La sn hr hd
 have hev := sev_ok (hd.T.mono hd.fle hd.rle) hd.L
 obtain ⟨L, O, hp, md, cnt⟩ := st
 simp only [pstep, force_eq, fb_eq] at h
 split at h
 ·next hw =>
  have hw' := wanted_ok hev hw
  split at h
  ·next hh =>
   split at h
   ·next v hp' q' e =>
    cases h
    obtain ⟨w, H', ρ', h1, h2, h3, h4⟩ := eff_ok (P := E.P) (cl := fun _ _ _ => none) hr hev e hq
    refine prg_does hr hd hw' (does_op w H' h1 ⟨F, ρ', v, hp', h2.ext, h2.le, h2.rel, h3, false, _, fun m hm => List.mem_append_right _ hm, (fun h => nomatch h), ?_, ?_, (fun _ => isHeap_load hh _ _ _ _ _), hP⟩)
    ·intro b B a e' q1 q2 q3 q4
     exact h4 b B a e' q1 q2 (fun x => q3 (List.mem_append_left _ x)) q4
    ·intro b B q1 q2 q3
     rw [peff_un e (List.getElem?_eq_some_iff.1 q3).1 fun x => q2 (List.mem_append_left _ x)]
     exact q3
   ·cases h
  ·split at h
   ·next v q' e =>
    split at h
    ·next hlo =>
     cases h
     obtain ⟨w, h1, h2⟩ := val_ok (P := E.P) (cl := fun _ _ _ => none) hev hr.blk e hq
     refine prg_does hr hd hw' (does_op w H h1 ⟨F, ρ, v, hp, .refl, fun _ _ h => h, hr, h2, (bif dr then opO l0 ⟨L, O, hp, md, cnt⟩ T o.op else false), md, fun _ h => h, (fun h => by
      cases dr with
      | true => exact opO_ok hd h e hq h1
      | false => cases h), fun _ _ _ _ _ _ _ _ => rfl, fun _ _ _ _ h => h, fun hdr => ?_, ?_⟩)
     ·subst hdr
      exact loadOk_fresh hd hlo e hq h1
     ·rw [not_eff e]; exact hP
    ·cases h
   ·cases h
 ·next hw =>
  have hw' := wanted_ok hev hw
  cases h
  exact prg_not hr hd hw' hP
 ·cases h
theorem prg_ops : ∀ {pre : List AOper} {st st' : PS} {q : Prop}, pops dr l0 T pre st = some (st', q) → q → PRg E p dr T ops l0 st' Q → PRg E p dr T (pre ++ ops) l0 st Q
 | [], st, st', q, h, hq, hP => by
   simp only [pops, force_eq] at h
   cases h; exact hP
 | o :: r, st, st', q, h, hq, hP => by
   simp only [pops] at h
   split at h
   ·next st1 q1 e =>
    split at h
    ·next st2 q2 e2 =>
     cases h
     exact prg_step e hq.1 (prg_ops e2 hq.2 hP)
    ·cases h
   ·cases h
theorem prg_run (k : Nat) {st' : PS} {q : Prop} (h : pops dr l0 T (ops.take k) st = some (st', q)) (hq : q) (hP : PRg E p dr T (ops.drop k) l0 st' Q) : PRg E p dr T ops l0 st Q := by
 have := prg_ops h hq hP
 rwa [List.take_append_drop] at this
theorem prg_nil (h : Q st.L st.hp) : PRg E p dr T [] l0 st Q := by
 intro F0 ρ0 hp0 H0 F ρ H ds Ta La sn hr hd
 have : GPost p T Ta F ρ ds H Q La H := ⟨F, ρ, _, _, .refl, fun _ _ _ h => h, hr, hd.T.mono hd.fle hd.rle, hd.L, h⟩
 cases dr with
 | true => exact draws_nil this
 | false => exact ops_nil this
theorem prg_all {st' : PS} {q : Prop} (h : pops dr l0 T ops st = some (st', q)) (hq : q) (hP : Q st'.L st'.hp) : PRg E p dr T ops l0 st Q := by
 have := prg_ops (E := E) (p := p) (ops := []) (Q := Q) h hq (prg_nil hP)
 rwa [List.append_nil] at this
theorem prg_split {t : Bool} {L : List PV} {O : List Bool} {md : List Nat} {cnt : Nat} (h1 : t = true → PRg E p dr T ops l0 ⟨.s (.bool true) :: L, O, hp, md, cnt⟩ Q) (h2 : t = false → PRg E p dr T ops l0 ⟨.s (.bool false) :: L, O, hp, md, cnt⟩ Q) : PRg E p dr T ops l0 ⟨.s (.bool t) :: L, O, hp, md, cnt⟩ Q := by
 cases t with
 | true => exact h1 rfl
 | false => exact h2 rfl
def PTri (E : Env V) (inR : Bool) (p : List Nat) (c : ACode) (T : List PV) (hp : PH) (Q : AE → List PV → PH → Prop) : Prop :=
 ∀ (F : Nat → Prop) (ρ : PR) (H : AH V) (ds : List Nat) (Ta : List Value), Rel F ρ hp ds H → PRels F ρ H T Ta → ARuns E (.code inR c Ta H ds) fun r => ∃ F' ρ' T' hp', PExt F ρ ds H F' ρ' r.ds r.H ∧ (∀ b x, b ∈ p → ρ b = some x → ρ' b = some x) ∧ Rel F' ρ' hp' r.ds r.H ∧ PRels F' ρ' r.H T' r.T ∧ Q r.e T' hp'
theorem PTri.mono {inR : Bool} {c : ACode} {Q R : AE → List PV → PH → Prop} (h : PTri E inR p c T hp Q) (hq : ∀ e T hp, Q e T hp → R e T hp) : PTri E inR p c T hp R := fun F ρ H ds Ta hr hT =>
 (h F ρ H ds Ta hr hT).mono fun r ⟨F', ρ', T', hp', a1, a2, a3, a4, a5⟩ => ⟨F', ρ', T', hp', a1, a2, a3, a4, hq _ _ _ a5⟩
theorem back_ok (hT : PRels F ρ H T Ta) (hL : PRels F ρ H L La) : ∀ {bk : List (Nat × Src)} {T1 : List PV} {T1a : List Value} {T' : List PV}, PRels F ρ H T1 T1a → pback T L bk T1 = some T' → ∃ T'a, aback Ta La bk T1a = some T'a ∧ PRels F ρ H T' T'a
 | [], T1, T1a, T', h1, h => by
   simp only [pback, force_eq, Option.some.injEq] at h
   subst h; exact ⟨T1a, rfl, h1⟩
 | (i, s) :: r, T1, T1a, T', h1, h => by
   simp only [pback] at h
   split at h
   ·next v e =>
    obtain ⟨w, q1, q2⟩ := sev_ok hT hL s v e
    obtain ⟨T'a, q3, q4⟩ := back_ok hT hL (h1.set q2) h
    exact ⟨T'a, by simp only [aback, q1]; exact q3, q4⟩
   ·cases h
theorem di_start (hr : Rel F ρ hp ds H) (hT : PRels F ρ H T Ta) : DI F ρ hp H hp.length F ρ H T Ta ⟨[], [], hp, [], 0⟩ [] [H] :=
 ⟨.refl _ _, fun _ _ h => h, hr.blk, hT, .nil, fun d v w h => by simp at h, rfl, Nat.le_refl _, fun _ _ _ _ h => h, fun K hK => by
  have : K = H := by simpa using hK
  subst this
  exact ⟨fun _ _ => rfl, fun _ _ _ _ _ _ _ _ _ => rfl⟩⟩
theorem p_region {inR : Bool} {back : List (Nat × Src)} {R : AE → List PV → PH → Prop} (h : PRg E p false T ops hp.length ⟨[], [], hp, [], 0⟩ fun L hp' => ∃ T', pback T L back T = some T' ∧ R .norm T' hp') : PTri E inR p (.region ops back) T hp R := by
 intro F ρ H ds Ta hr hT
 refine runs_region ((h F ρ hp H F ρ H ds Ta [] [H] hr (di_start hr hT)).mono fun La H' hg => ?_)
 obtain ⟨F', ρ', L', hp', a1, a2, a3, hT', a4, T', a5, a6⟩ := hg
 obtain ⟨T'a, q1, q2⟩ := back_ok hT' a4 hT' a5
 exact ⟨T'a, q1, F', ρ', T', hp', a1, a2, a3, q2, a6⟩
theorem p_draw {inR : Bool} {back : List (Nat × Src)} {R : AE → List PV → PH → Prop} (h : PRg E p true T ops hp.length ⟨[], [], hp, [], 0⟩ fun L hp' => ∃ T', pback T L back T = some T' ∧ R .norm T' hp') : PTri E inR p (.draw ops back) T hp R := by
 intro F ρ H ds Ta hr hT
 refine runs_draw ((h F ρ hp H F ρ H ds Ta [] [H] hr (di_start hr hT)).mono fun La H' hg => ?_)
 obtain ⟨F', ρ', L', hp', a1, a2, a3, hT', a4, T', a5, a6⟩ := hg
 obtain ⟨T'a, q1, q2⟩ := back_ok hT' a4 hT' a5
 exact ⟨T'a, q1, F', ρ', T', hp', a1, a2, a3, q2, a6⟩
end
end Go.Proofs.Ytggaimcopbjdiaa.AM
