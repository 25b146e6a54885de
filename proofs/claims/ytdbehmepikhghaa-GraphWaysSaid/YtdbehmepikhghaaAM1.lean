/- The abstract machine: compiled code, abstract heap, evaluator. Definitions alone: nothing is claimed here. -/
import Derived.RangeFuncLeaves
import Derived.OrdersIn
import Derived.Deep.AppendSrc
set_option linter.unusedVariables false
namespace Go.Proofs.Ytdbehmepikhghaa.AM

/-- A value of one cell without an address. -/
def flat1 : Value → Bool
  | .bool _ | .int _ _ | .string _ | .float _ _ | .complex _ _ _ | .nilFunc | .nilIface => true
  | .pointer none => true
  | .slice none 0 0 => true
  | _ => false
/-- A value without an address. -/
def flat : Value → Bool
  | .agg cs => cs.toList.all flat1
  | .tuple vs => vs.toList.isEmpty
  | v => flat1 v
/-- A value that fills one cell. -/
def oneCell : Value → Bool
  | .agg _ | .tuple _ => false
  | _ => true


/-! ### Vectors: lists for reading, tries for running -/
class Vec (V : Type → Type) where
  emp {α : Type} : V α
  get {α : Type} : V α → Nat → Option α
  set {α : Type} : V α → Nat → α → V α
  push {α : Type} : V α → α → V α
  size {α : Type} : V α → Nat
  get_emp {α : Type} (i : Nat) : get (emp : V α) i = none
  get_set {α : Type} (v : V α) (i j : Nat) (a : α) : get (set v i a) j = if i = j ∧ j < size v then some a else get v j
  get_push {α : Type} (v : V α) (j : Nat) (a : α) : get (push v a) j = if j = size v then some a else get v j
  size_emp {α : Type} : size (emp : V α) = 0
  size_set {α : Type} (v : V α) (i : Nat) (a : α) : size (set v i a) = size v
  size_push {α : Type} (v : V α) (a : α) : size (push v a) = size v + 1
  get_lt {α : Type} (v : V α) (i : Nat) (a : α) : get v i = some a → i < size v

instance : Vec List where
  emp := []
  get l i := l[i]?
  set l i a := l.set i a
  push l a := l ++ [a]
  size l := l.length
  get_emp i := by simp
  get_set v i j a := by
    rw [List.getElem?_set]
    by_cases h : i = j
    · subst h
      by_cases h2 : i < v.length
      · simp [h2]
      · simp [h2]
    · simp [h]
  get_push v j a := by
    by_cases h : j < v.length
    · rw [List.getElem?_append_left h, if_neg (by omega)]
    · by_cases h2 : j = v.length
      · subst h2; simp
      · rw [if_neg h2, List.getElem?_eq_none (by simp; omega), List.getElem?_eq_none (by omega)]
  size_emp := rfl
  size_set v i a := by simp
  size_push v a := by simp
  get_lt v i a h := (List.getElem?_eq_some_iff.1 h).1

/-- A place as a path: told once for each number. -/
def pathF : Nat → Nat → List Bool
  | 0, _ => []
  | f + 1, i => bif Nat.beq i 0 then [] else bif Nat.beq (i % 2) 1 then true :: pathF f (i / 2) else false :: pathF f (i / 2 - 1)
def path (i : Nat) : List Bool := pathF i i
theorem bif_ite {α : Type} (p : Prop) [Decidable p] (b : Bool) (h : (b = true) = p) (x y : α) : (bif b then x else y) = if p then x else y := by
  cases b
  · rw [if_neg (fun hp => by rw [← h] at hp; exact absurd hp (by simp))]; rfl
  · rw [if_pos (h ▸ rfl)]; rfl
theorem pathF_inj : ∀ (f g i j : Nat), i ≤ f → j ≤ g → pathF f i = pathF g j → i = j
  | 0, 0, i, j, hi, hj, _ => by omega
  | 0, g + 1, i, j, hi, hj, h => by
    simp only [pathF, bif_ite (j = 0) _ Nat.beq_eq, bif_ite (j % 2 = 1) _ Nat.beq_eq] at h
    by_cases e : j = 0
    · omega
    · rw [if_neg e] at h; split at h <;> cases h
  | f + 1, 0, i, j, hi, hj, h => by
    simp only [pathF, bif_ite (i = 0) _ Nat.beq_eq, bif_ite (i % 2 = 1) _ Nat.beq_eq] at h
    by_cases e : i = 0
    · omega
    · rw [if_neg e] at h; split at h <;> cases h
  | f + 1, g + 1, i, j, hi, hj, h => by
    simp only [pathF, bif_ite (i = 0) _ Nat.beq_eq, bif_ite (i % 2 = 1) _ Nat.beq_eq, bif_ite (j = 0) _ Nat.beq_eq, bif_ite (j % 2 = 1) _ Nat.beq_eq] at h
    by_cases ei : i = 0
    · by_cases ej : j = 0
      · omega
      · rw [if_pos ei, if_neg ej] at h; split at h <;> cases h
    · by_cases ej : j = 0
      · rw [if_neg ei, if_pos ej] at h; split at h <;> cases h
      · rw [if_neg ei, if_neg ej] at h
        by_cases oi : i % 2 = 1
        · by_cases oj : j % 2 = 1
          · rw [if_pos oi, if_pos oj] at h
            injection h with _ h
            have := pathF_inj f g (i / 2) (j / 2) (by omega) (by omega) h
            omega
          · rw [if_pos oi, if_neg oj] at h; injection h with h _; cases h
        · by_cases oj : j % 2 = 1
          · rw [if_neg oi, if_pos oj] at h; injection h with h _; cases h
          · rw [if_neg oi, if_neg oj] at h
            injection h with _ h
            have := pathF_inj f g (i / 2 - 1) (j / 2 - 1) (by omega) (by omega) h
            omega
theorem path_inj {i j : Nat} (h : path i = path j) : i = j := pathF_inj i j i j (Nat.le_refl _) (Nat.le_refl _) h
inductive Tr (α : Type) where
  | leaf
  | node (v : Option α) (l r : Tr α)
namespace Tr
def get {α : Type} : Tr α → List Bool → Option α
  | .leaf, _ => none
  | .node v _ _, [] => v
  | .node _ l r, b :: p => match b with
    | true => get l p
    | false => get r p
def set {α : Type} : List Bool → Tr α → α → Tr α
  | [], t, a => match t with
    | .leaf => .node (some a) .leaf .leaf
    | .node _ l r => .node (some a) l r
  | b :: p, t, a => match t with
    | .leaf => (match b with | true => .node none (set p .leaf a) .leaf | false => .node none .leaf (set p .leaf a))
    | .node v l r => (match b with | true => .node v (set p l a) r | false => .node v l (set p r a))
theorem get_leaf {α : Type} (q : List Bool) : get (.leaf : Tr α) q = none := by cases q <;> rfl
theorem get_set {α : Type} (a : α) : ∀ (p : List Bool) (t : Tr α) (q : List Bool), get (set p t a) q = if p = q then some a else get t q
  | [], .leaf, [] => by simp [set, get]
  | [], .leaf, c :: q => by cases c <;> simp [set, get]
  | [], .node v l r, [] => by simp [set, get]
  | [], .node v l r, c :: q => by cases c <;> simp [set, get]
  | b :: p, .leaf, [] => by cases b <;> simp [set, get]
  | b :: p, .leaf, c :: q => by
    cases b <;> cases c <;> simp [set, get, get_set a p .leaf q]
  | b :: p, .node v l r, [] => by cases b <;> simp [set, get]
  | b :: p, .node v l r, c :: q => by
    cases b <;> cases c <;> simp [set, get, get_set a p l q, get_set a p r q]
end Tr
/-- A trie that holds its first n places. -/
inductive TV (α : Type) where
  | mk (n : Nat) (t : Tr α)
namespace TV
def size {α : Type} : TV α → Nat | .mk n _ => n
def get {α : Type} : TV α → Nat → Option α | .mk n t, i => bif Nat.ble (i + 1) n then t.get (path i) else none
def set {α : Type} : TV α → Nat → α → TV α | .mk n t, i, a => bif Nat.ble (i + 1) n then .mk n (t.set (path i) a) else .mk n t
def push {α : Type} : TV α → α → TV α | .mk n t, a => .mk (n + 1) (t.set (path n) a)
end TV
theorem Tr.get_set' {α : Type} (a : α) (t : Tr α) (i j : Nat) : (t.set (path i) a).get (path j) = if i = j then some a else t.get (path j) := by
  rw [Tr.get_set]
  by_cases e : i = j
  · subst e; simp
  · rw [if_neg e, if_neg (fun h => e (path_inj h))]
theorem ble_t {a b : Nat} (h : a ≤ b) : Nat.ble a b = true := by rw [Nat.ble_eq]; exact h
theorem ble_f {a b : Nat} (h : ¬ a ≤ b) : Nat.ble a b = false := by rw [← Bool.not_eq_true, Nat.ble_eq]; exact h
instance : Vec TV where
  emp := .mk 0 .leaf
  get := TV.get
  set := TV.set
  push := TV.push
  size := TV.size
  get_emp i := rfl
  get_set v i j a := by
    obtain ⟨n, t⟩ := v
    show TV.get (TV.set (.mk n t) i a) j = if i = j ∧ j < n then some a else TV.get (.mk n t) j
    by_cases h : i + 1 ≤ n
    · have h1 : TV.set (.mk n t) i a = .mk n (t.set (path i) a) := by simp only [TV.set, ble_t h, cond_true]
      rw [h1]
      show (bif Nat.ble (j + 1) n then (t.set (path i) a).get (path j) else none) = _
      rw [Tr.get_set']
      by_cases e : i = j
      · subst e; rw [ble_t h, if_pos rfl, if_pos ⟨rfl, h⟩]; rfl
      · rw [if_neg e, if_neg (fun x => e x.1)]; rfl
    · have h1 : TV.set (.mk n t) i a = .mk n t := by simp only [TV.set, ble_f h, cond_false]
      rw [h1, if_neg (by rintro ⟨rfl, h2⟩; omega)]
  get_push v j a := by
    obtain ⟨n, t⟩ := v
    show (bif Nat.ble (j + 1) (n + 1) then (t.set (path n) a).get (path j) else none) = if j = n then some a else (bif Nat.ble (j + 1) n then t.get (path j) else none)
    rw [Tr.get_set']
    by_cases e : j = n
    · subst e; rw [if_pos rfl, if_pos rfl, ble_t (Nat.le_refl _)]; rfl
    · rw [if_neg e, if_neg (fun h => e h.symm)]
      by_cases h : j + 1 ≤ n
      · rw [ble_t h, ble_t (show j + 1 ≤ n + 1 by omega)]
      · rw [ble_f h, ble_f (show ¬ j + 1 ≤ n + 1 by omega)]
  size_emp := rfl
  size_set v i a := by
    obtain ⟨n, t⟩ := v
    cases h : Nat.ble (i + 1) n <;> simp [TV.set, TV.size, h]
  size_push v a := by obtain ⟨n, t⟩ := v; rfl
  get_lt v i a h := by
    obtain ⟨n, t⟩ := v
    by_cases hb : i + 1 ≤ n
    · exact hb
    · simp only [TV.get, ble_f hb] at h; cases h
def Vec.ofList {V : Type → Type} [Vec V] {α : Type} (l : List α) : V α := l.foldl Vec.push Vec.emp


inductive AE | norm | exit (id : Nat) | goto (l : Nat) | ret
  deriving DecidableEq

/-- What is done to values without addresses as the model has it. -/
inductive FOp
  | bin (op : BinOp) (t : TypeId) (x y : Operand)
  | un (op : UnOp)
  | conv (s d : TypeId)
  | idx (t : TypeId)
  | min (ts : Array TypeId) (t : TypeId)
  | max (ts : Array TypeId) (t : TypeId)
/-- An operation over operands of type χ, its types resolved. -/
inductive AOp (χ : Type)
  | bad
  | mov (x : χ)
  | pick (c a b : χ)
  | bin (op : BinOp) (x y : χ)
  | eqn (kd : Nat) (neg : Bool) (x y : χ)
  | not (x : χ)
  | conv (k : IntKind) (x : χ)
  | beq (neg : Bool) (x y : χ)
  | flat (o : FOp) (xs : List χ)
  | sbin (op : BinOp) (x y : χ)
  | sidx (x i : χ)
  | slen (x : χ)
  | scut (x : χ) (lo hi : Option χ)
  | load (n : Option Nat) (a : χ)
  | store (n : Nat) (a x : χ)
  | alloc (cs : List Value)
  | box (x : χ)
  | build (cs : List Value) (parts : List (Nat × Nat × χ))
  | mkarr (n : Nat) (cs : List Value) (parts : List (Nat × Nat × χ))
  | mkslice (zero : List Value) (bytes : Nat) (l c : χ)
  | slice (size : Nat) (x : χ) (lo hi mx : Option χ)
  | slarr (len size : Nat) (x : χ) (lo hi mx : Option χ)
  | faddr (off : Nat) (x : χ)
  | fld (n : Option Nat) (off : Nat) (x : χ)
  | iaddr (size : Nat) (x i : χ)
  | iarr (len size : Nat) (x i : χ)
  | ext (x : χ) (i : Nat)
  | mkfn (fn : FuncId) (first captured : List χ)
  | nilchk (x : χ)
  | len (x : χ)
  | append (share : Bool) (size bytes : Nat) (s x : χ)
  | copy (size : Nat) (d s : χ)
  | call (f : χ) (args : List χ)

/-- Where a value comes from: a kept temporary as the region found it; what an operation of this region told (the last one: 0); a constant; a function. -/
inductive Src
  | tmp (i : Nat)
  | loc (d : Nat)
  | const (v : Value)
  | func (f : FuncId)

structure AOper where
  op : AOp Src
  g : Option (Src × Bool)
  /-- In a region that draws: how many effects stand surely ahead of it. -/
  lo : Nat

inductive ACode
  | bad | skip | ret
  | seq (a b : ACode)
  | cond (c : Src) (a b : ACode)
  | block (id : Nat) (b : ACode)
  | loop (b : ACode)
  | exit (id : Nat)
  | scope (b : ACode)
  | label (l : Nat)
  | goto (l : Nat)
  | rangeFunc (g : Src) (ps : List (Option Nat)) (assign body : ACode)
  | region (ops : List AOper) (back : List (Nat × Src))
  | draw (ops : List AOper) (back : List (Nat × Src))

inductive ARes | tmp (i : Nat) | cell (i : Nat) (n : Option Nat)
structure AFunc where
  /-- The temporaries that are kept. -/
  keep : List Nat
  res : List ARes
  body : ACode

inductive Blk
  | dead
  | arr (cs : List Value) (w : Bool) (lo : Nat)
  | loop (T : List Value) (ps : List (Option Nat)) (assign body : ACode) (st : LoopState) (pend : Option AE)
  | defr
abbrev AT := List Value
abbrev AH (V : Type → Type) := V Blk

/-! ### Compiling -/
def isAggT (P : Program) (t : TypeId) : Option (Option Nat) :=
  match P.underlying t, P.info? t with
  | some (.struct _), some i | some (.array _ _), some i => some (some i.size)
  | some _, some _ => some none
  | _, _ => none
def sizeT (P : Program) (t : TypeId) : Nat := ((P.info? t).map (·.size)).getD 0
def bytesT (P : Program) (t : TypeId) : Nat := ((P.info? t).map (·.bytes)).getD 0
def zeroT (P : Program) (t : TypeId) : Option (List Value) := ((P.info? t).bind (·.zero)).map (·.cells.toList)
def zeroOk (P : Program) (e : TypeId) : Bool := match zeroT P e with | some cs => cs.length == sizeT P e | none => false
def compileOp (P : Program) (share : Bool) (o : Oper) : AOp Operand :=
  match o.op with
  | .move x | .assign x => .mov x
  | .pick c a b => .pick c a b
  | .binOp op t x y _ =>
    match P.underlying t with
    | some (.int _) => .bin op x y
    | some .string => .sbin op x y
    | some .bool => (match op with | .eql => .beq false x y | .neq => .beq true x y | _ => .bad)
    | some (.slice _) => (match op with | .eql => .eqn 0 false x y | .neq => .eqn 0 true x y | _ => .bad)
    | some (.pointer _) => (match op with | .eql => .eqn 1 false x y | .neq => .eqn 1 true x y | _ => .bad)
    | some (.func _ _ _) => (match op with | .eql => .eqn 2 false x y | .neq => .eqn 2 true x y | _ => .bad)
    | some _ => .flat (.bin op t x y) [x, y]
    | none => .bad
  | .unOp op _ x => match op with | .not => .not x | _ => .flat (.un op) [x]
  | .convert s d x =>
    match P.underlying s, P.underlying d with
    | some (.int _), some (.int k) => .conv k x
    | some (.slice _), _ | _, some (.slice _) | none, _ | _, none => .bad
    | _, _ => .flat (.conv s d) [x]
  | .index t x i => match P.underlying t with | some .string => .sidx x i | some _ => .flat (.idx t) [x, i] | none => .bad
  | .load t a => match isAggT P t with | some n => .load n a | none => .bad
  | .store t a x => match P.info? t with | some i => .store i.size a x | none => .bad
  | .alloc t => match zeroT P t with | some cs => if cs.all flat1 then .alloc cs else .bad | none => .bad
  | .box _ x => .box x
  | .build t ps =>
    match P.underlying t, zeroT P t with
    | some (.struct fs), some cs =>
      if cs.all flat1 && fs.toList.all (fun f => (P.info? f.type).isSome) && ps.toList.all (fun p => decide (p.1 < fs.size)) then
        .build cs (ps.toList.map fun p => ((fs[p.1]?.map (·.offset)).getD 0, sizeT P ((fs[p.1]?.map (·.type)).getD 0), p.2)) else .bad
    | some (.array _ e), some cs => if cs.all flat1 && (P.info? e).isSome then .build cs (ps.toList.map fun p => (p.1 * sizeT P e, sizeT P e, p.2)) else .bad
    | _, _ => .bad
  | .buildSlice t n ps =>
    match P.underlying t with
    | some (.slice e) =>
      match P.info? e, zeroT P e with
      | some i, some cs => if cs.all flat1 && decide (n * i.size ≤ 2 ^ 24) && decide (cs.length = i.size) && decide (0 < i.size) then .mkarr n (List.replicate n cs).flatten (ps.toList.map fun p => (p.1 * i.size, i.size, p.2)) else .bad
      | _, _ => .bad
    | _ => .bad
  | .makeSlice t l c =>
    match P.underlying t with
    | some (.slice e) =>
      match P.info? e, zeroT P e with
      | some i, some cs => if cs.all flat1 && decide (cs.length = i.size) && decide (0 < i.size) then .mkslice cs i.bytes l c else .bad
      | _, _ => .bad
    | _ => .bad
  | .slice t x lo hi mx =>
    match P.underlying t with
    | some (.slice e) => if (P.info? e).isSome && decide (0 < sizeT P e) then .slice (sizeT P e) x lo hi mx else .bad
    | some (.array n e) => if (P.info? e).isSome then .slarr n (sizeT P e) x lo hi mx else .bad
    | some .string => if mx.isSome then .bad else .scut x lo hi
    | _ => .bad
  | .fieldAddr s x f =>
    match P.underlying s with
    | some (.struct fs) => match fs[f]? with | some fd => if sizeT P fd.type = 0 then .bad else .faddr fd.offset x | none => .bad
    | _ => .bad
  | .field s x f =>
    match P.underlying s with
    | some (.struct fs) => match fs[f]? with | some fd => (match isAggT P fd.type with | some n => .fld n fd.offset x | none => .bad) | none => .bad
    | _ => .bad
  | .indexAddr t x i =>
    match P.underlying t with
    | some (.slice e) => if (P.info? e).isSome then .iaddr (sizeT P e) x i else .bad
    | some (.array n e) => if (P.info? e).isSome then .iarr n (sizeT P e) x i else .bad
    | _ => .bad
  | .extract x i => .ext x i
  | .makeFunc fn first captured => match fn with | .func f => .mkfn f first.toList captured.toList | _ => .bad
  | .nilCheck x => .nilchk x
  | .call c =>
    match c.callee with
    | .value f => .call f c.args.toList
    | .builtin b =>
      match b, c.args.toList, c.argTypes.toList with
      | .len, [x], [t] => match P.underlying t with | some (.slice _) => .len x | some .string => .slen x | _ => .bad
      | .min, xs, _ => .flat (.min c.argTypes o.type) xs
      | .max, xs, _ => .flat (.max c.argTypes o.type) xs
      | .append, [s, x], [t, tx] =>
        match P.underlying t, P.underlying tx with
        | some (.slice e), some (.slice _) | some (.slice e), some .string =>
          if zeroOk P e && decide (0 < sizeT P e) && decide (0 < bytesT P e) then .append share (sizeT P e) (bytesT P e) s x else .bad
        | _, _ => .bad
      | .copy, [d, s], [t, _] =>
        match P.underlying t with
        | some (.slice e) => if (P.info? e).isSome && decide (0 < sizeT P e) then .copy (sizeT P e) d s else .bad
        | _ => .bad
      | _, _, _ => .bad
    | _ => .bad
  | _ => .bad

/-- Does it run code or write what is there? (Of these, in a region that draws, each stands behind the one before.) -/
def isEff {χ : Type} : AOp χ → Bool
  | .store .. | .append .. | .copy .. | .call .. | .bad => true
  | _ => false

/-! ### Operands resolved -/
def mapOpt {α β : Type} (f : α → Option β) : List α → Option (List β)
  | [] => some []
  | x :: r => match f x with
    | some y => (match mapOpt f r with | some ys => some (y :: ys) | none => none)
    | none => none
def mapO {α β : Type} (f : α → Option β) : Option α → Option (Option β)
  | none => some none
  | some x => match f x with | some y => some (some y) | none => none
def m1 {α β γ : Type} (f : α → Option β) (k : β → γ) (x : α) : Option γ := match f x with | some y => some (k y) | none => none
def m2 {α β γ : Type} (f : α → Option β) (k : β → β → γ) (x y : α) : Option γ := match f x, f y with | some a, some b => some (k a b) | _, _ => none
def m3 {α β γ : Type} (f : α → Option β) (k : β → β → β → γ) (x y z : α) : Option γ := match f x, f y, f z with | some a, some b, some c => some (k a b c) | _, _, _ => none
def mParts {α β : Type} (f : α → Option β) (p : Nat × Nat × α) : Option (Nat × Nat × β) := match f p.2.2 with | some y => some (p.1, p.2.1, y) | none => none
def AOp.mapM {α β : Type} (f : α → Option β) : AOp α → Option (AOp β)
  | .bad => some .bad
  | .mov x => m1 f .mov x
  | .pick c a b => m3 f .pick c a b
  | .bin op x y => m2 f (.bin op) x y
  | .eqn kd neg x y => m2 f (.eqn kd neg) x y
  | .not x => m1 f .not x
  | .conv k x => m1 f (.conv k) x
  | .beq neg x y => m2 f (.beq neg) x y
  | .flat o xs => match mapOpt f xs with | some ys => some (.flat o ys) | none => none
  | .sbin op x y => m2 f (.sbin op) x y
  | .sidx x i => m2 f .sidx x i
  | .slen x => m1 f .slen x
  | .scut x lo hi => match f x, mapO f lo, mapO f hi with | some x, some lo, some hi => some (.scut x lo hi) | _, _, _ => none
  | .load n a => m1 f (.load n) a
  | .store n a x => m2 f (.store n) a x
  | .alloc cs => some (.alloc cs)
  | .box x => m1 f .box x
  | .build cs ps => match mapOpt (mParts f) ps with | some l => some (.build cs l) | none => none
  | .mkarr n cs ps => match mapOpt (mParts f) ps with | some l => some (.mkarr n cs l) | none => none
  | .mkslice z b l c => m2 f (.mkslice z b) l c
  | .slice size x lo hi mx => match f x, mapO f lo, mapO f hi, mapO f mx with | some x, some lo, some hi, some mx => some (.slice size x lo hi mx) | _, _, _, _ => none
  | .slarr ln size x lo hi mx => match f x, mapO f lo, mapO f hi, mapO f mx with | some x, some lo, some hi, some mx => some (.slarr ln size x lo hi mx) | _, _, _, _ => none
  | .faddr off x => m1 f (.faddr off) x
  | .fld n off x => m1 f (.fld n off) x
  | .iaddr size x i => m2 f (.iaddr size) x i
  | .iarr ln size x i => m2 f (.iarr ln size) x i
  | .ext x i => m1 f (fun y => .ext y i) x
  | .mkfn fn a c => match mapOpt f a, mapOpt f c with | some a, some c => some (.mkfn fn a c) | _, _ => none
  | .nilchk x => m1 f .nilchk x
  | .len x => m1 f .len x
  | .append sh size bytes s x => m2 f (.append sh size bytes) s x
  | .copy size d s => m2 f (.copy size) d s
  | .call g args => match f g, mapOpt f args with | some g, some args => some (.call g args) | _, _ => none

/-- Where each temporary's value comes from, told from behind: 'loc k': the k-th operation of the region, from 0. -/
inductive Org
  | tmp (i : Nat)
  | val (k : Nat)
  | const (v : Value)
  | func (f : FuncId)
abbrev OEnv := List (Nat × Org)
def OEnv.find (m : OEnv) (t : Nat) : Option Org := (m.find? fun p => p.1 == t).map (·.2)
def orgOf (m : OEnv) : Operand → Option Org
  | .tmp t => m.find t
  | .const v => if flat v then some (.const v) else none
  | .global _ => none
  | .func f => some (.func f)
/-- As an operand of operation number n. -/
def Org.src (n : Nat) : Org → Src
  | .tmp i => .tmp i
  | .val k => .loc (n - 1 - k)
  | .const v => .const v
  | .func f => .func f
def srcOf (m : OEnv) (n : Nat) (x : Operand) : Option Src := (orgOf m x).map (Org.src n)
def guardOf (ops : Array Oper) (o : Oper) : Option (Option Nat × Bool) :=
  o.guard.map fun (j, want) => ((ops[j]?).bind (·.dst), want)
def setOrg (m : OEnv) (d : Option Nat) (x : Org) : OEnv := match d with | some d => (d, x) :: m | none => m

/-- The same, where the operation looks at it as the model has it. -/
def orgIn (ops : Array Oper) (o : Oper) (m : OEnv) (x : Operand) : Option Org :=
  match x with
  | .tmp t => if (o.looksAt ops).contains t then orgOf m x else none
  | x => orgOf m x
def srcIn (ops : Array Oper) (o : Oper) (m : OEnv) (n : Nat) (x : Operand) : Option Src := (orgIn ops o m x).map (Org.src n)
/-- One operation more: what is told so far is m, n values: what it comes to. None: it is another's value, under a new name. -/
def oneOp (P : Program) (share : Bool) (ops : Array Oper) (lo : Nat) (m : OEnv) (n : Nat) (o : Oper) : Option (Option AOper × Org) :=
  match o.guard, compileOp P share o with
  | none, .mov x => (orgIn ops o m x).map fun y => (none, y)
  | _, op =>
    match op.mapM (srcIn ops o m n), guardOf ops o with
    | some op', none => some (some ⟨op', none, lo⟩, .val n)
    | some op', some (some d, want) => (srcIn ops o m n (.tmp d)).map fun s => (some ⟨op', some (s, want), lo⟩, .val n)
    | _, _ => none
/-- The operations in their order, with what stands ahead of each. -/
def someOps (P : Program) (share : Bool) (ops : Array Oper) : List (Oper × Nat) → OEnv → Nat → Option (List AOper × OEnv × Nat)
  | [], m, n => some ([], m, n)
  | (o, lo) :: r, m, n =>
    match oneOp P share ops lo m n o with
    | some (none, x) => someOps P share ops r (setOrg m o.dst x) n
    | some (some a, x) => (match someOps P share ops r (setOrg m o.dst x) (n + 1) with | some (l, m', n') => some (a :: l, m', n') | none => none)
    | none => none
/-- What is written back: of the kept temporaries those that come from elsewhere now. -/
def backOf (keep : List Nat) (m : OEnv) (n : Nat) : List (Nat × Src) :=
  keep.zipIdx.filterMap fun (t, i) => match m.find t with
    | some (.tmp j) => if i == j then none else some (i, .tmp j)
    | some x => some (i, x.src n)
    | none => none
def entry (keep : List Nat) : OEnv := keep.zipIdx.map fun (t, i) => (t, .tmp i)

/-- For each operation what must stand ahead of it, by all chains. -/
def aheadOf (ops : List Oper) : List (List Nat) :=
  ops.foldl (init := []) fun acc o => acc ++ [(o.after.toList.flatMap fun e => if Region.binds .any e then e.on :: acc.getD e.on [] else []).eraseDups]
/-- The operations, effects as early as may be: before each effect what it needs, by number. -/
def orderOf (ah : List (List Nat)) (effs : List Nat) (n : Nat) : List Nat :=
  let l := effs.foldl (init := []) fun acc e => acc ++ ((List.range n).filter fun i => !acc.contains i && (i == e || (ah.getD e []).contains i))
  l ++ (List.range n).filter fun i => !l.contains i
/-- In 'l' each operation stands once, behind all that must be ahead of it; what stands ahead of an effect must stand so in every order; what two operations name in common they name in one order. -/
def drawOk (ops : List Oper) (ah : List (List Nat)) (effs l : List Nat) : Bool :=
  (l.length == ops.length) && (l.all fun i => Nat.blt i ops.length) && (List.range ops.length).all (fun i => l.contains i) &&
  (l.zipIdx.all fun (j, k) => ((ah.getD j []).all fun i => (l.take k).contains i) &&
    !(l.take k).contains j && (l.take k).all fun i => (ah.getD j []).contains i || (match ops[i]?, ops[j]? with
      | some oi, some oj => oi.apart ops.toArray oj && !effs.contains j
      | _, _ => false))

def compileRegion (P : Program) (share : Bool) (keep : List Nat) (ops : Array Oper) (draw : Bool) : ACode :=
  let l := ops.toList
  if draw then
    let ah := aheadOf l
    let effs := (List.range l.length).filter fun i => match l[i]? with | some o => isEff (compileOp P share o) | none => false
    let ord := orderOf ah effs l.length
    if drawOk l ah effs ord then
      match someOps P share ops (ord.filterMap fun i => l[i]?.map fun o => (o, (ord.filter fun e => effs.contains e && (ah.getD i []).contains e).length)) (entry keep) 0 with
      | some (l, m, n) => .draw l (backOf keep m n)
      | none => .bad
    else .bad
  else
    match someOps P share ops (l.map fun o => (o, 0)) (entry keep) 0 with
    | some (l, m, n) => .region l (backOf keep m n)
    | none => .bad

def keptSrc (keep : List Nat) (x : Operand) : Option Src := srcOf (entry keep) 0 x
def compile (P : Program) (share : Bool) (keep : List Nat) : Code → ACode
  | .skip => .skip
  | .region _ ops draw => compileRegion P share keep ops draw
  | .seq a b => .seq (compile P share keep a) (compile P share keep b)
  | .cond c a b => match keptSrc keep c with | some c => .cond c (compile P share keep a) (compile P share keep b) | none => .bad
  | .block id b => .block id (compile P share keep b)
  | .loop b => .loop (compile P share keep b)
  | .rangeFunc g ps a b => match keptSrc keep g with | some g => .rangeFunc g (ps.toList.map fun t => keep.idxOf? t) (compile P share keep a) (compile P share keep b) | none => .bad
  | .exit id => .exit id
  | .scope b => .scope (compile P share keep b)
  | .label l => .label l
  | .goto l => .goto l
  | .ret => .ret
  | .refuse _ => .bad

/-- Which temporaries are named where: the regions' own, each once a region (with a mark where it is looked at ahead of being told); outside regions. -/
def looks (ops : Array Oper) (o : Oper) : List Nat :=
  (o.op.operands.toList.filterMap fun | .tmp t => some t | _ => none) ++ ((guardOf ops o).bind (·.1)).toList
def regionNames (ops : Array Oper) : List Nat × List Nat :=   -- told here (some), looked at ahead of that
  ops.toList.foldl (init := ([], [])) fun (told, open_) o =>
    let op := (looks ops o).filter fun t => !told.contains t
    (o.dst.toList ++ told, op ++ open_)
def codeNames : Code → List (List Nat) × List Nat   -- of each region all its names; names that must be kept
  | .region _ ops _ => let (told, op) := regionNames ops; ([(told ++ op).eraseDups], op)
  | .seq a b => let x := codeNames a; let y := codeNames b; (x.1 ++ y.1, x.2 ++ y.2)
  | .rangeFunc g ps a b => let x := codeNames a; let y := codeNames b; (x.1 ++ y.1, (match g with | .tmp t => [t] | _ => []) ++ ps.toList ++ x.2 ++ y.2)
  | .cond c a b => let x := codeNames a; let y := codeNames b; (x.1 ++ y.1, (match c with | .tmp t => [t] | _ => []) ++ x.2 ++ y.2)
  | .block _ b | .loop b | .scope b => codeNames b
  | _ => ([], [])
def keepOf (fn : Func) (c : Code) : List Nat :=
  let (rs, k) := codeNames c
  let k := (k ++ (fn.results.toList.map fun | ResultVar.tmp t => t | ResultVar.cell t _ => t)).eraseDups
  let twice := rs.foldl (init := (([] : List Nat), ([] : List Nat))) fun (seen, tw) l => (l ++ seen, (l.filter seen.contains) ++ tw)
  let all := (k ++ twice.2).eraseDups
  (List.range fn.ntmps).filter fun t => all.contains t

def compileRes (P : Program) (keep : List Nat) : ResultVar → Option ARes
  | .tmp t => (keep.idxOf? t).map .tmp
  | .cell a t => match keep.idxOf? a, isAggT P t with | some i, some n => some (.cell i n) | _, _ => none
/-- What is told goes into one of the first n temporaries. -/
def cOk (n : Nat) : Code → Bool
  | .region _ ops _ => ops.toList.all fun o => match o.dst with | some d => Nat.blt d n | none => true
  | .seq a b => cOk n a && cOk n b
  | .cond _ a b => cOk n a && cOk n b
  | .block _ b => cOk n b
  | .loop b => cOk n b
  | .scope b => cOk n b
  | .rangeFunc _ ps a b => ps.toList.all (fun d => Nat.blt d n) && (cOk n a && cOk n b)
  | _ => true
def compileFn (P : Program) (share : Bool) (f : FuncId) : Option AFunc :=
  match P.funcs[f]? with
  | some fn =>
    match fn.body with
    | some c =>
      match mapOpt (compileRes P (keepOf fn c)) fn.results.toList with
      | some rs => if fn.name == "runtime.NumGoroutine" || !cOk fn.ntmps c then none else some ⟨keepOf fn c, rs, compile P share (keepOf fn c) c⟩
      | none => none
    | none => none
  | none => none

/-! ### Values -/
section
variable {V : Type → Type} [Vec V]
/-- A source's value: T: the temporaries at the region's begin; L: what its operations told, the last one first. -/
def sev (T L : List Value) : Src → Option Value
  | .tmp i => T[i]?
  | .loc d => L[d]?
  | .const v => some v
  | .func f => some (.func (.func f) #[] #[])
def sevs (T L : List Value) : List Src → Option (List Value)
  | [] => some []
  | x :: r => match sev T L x with
    | some v => (match sevs T L r with | some vs => some (v :: vs) | none => none)
    | none => none
def awanted (T L : List Value) : Option (Src × Bool) → Bool
  | none => true
  | some (s, want) => match sev T L s with
    | some (.bool b) => b == want
    | _ => false

/-- What a term of the model comes to where it asks for the program alone. -/
def pureRun {α : Type} (P : Program) : Sem α → Option α
  | .pure a => some a
  | .program k => pureRun P (k P)
  | .mark _ k => pureRun P k
  | _ => none

/-- An operation on values without addresses, as the model has it. -/
def flatSem (o : FOp) (vs : List Value) : Sem Value :=
  match o, vs with
  | .bin op t x y, [a, b] => do eqGuard op t x y a b; binOp op t a b
  | .un op, [a] => Op.unary op a
  | .conv s d, [a] => convert s d a
  | .idx t, [x, i] => Instr.index t x i
  | .min ts t, vs => Builtin.min_ ts t vs.toArray
  | .max ts t, vs => Builtin.max_ ts t vs.toArray
  | _, _ => stuck ""
def aflat (P : Program) (o : FOp) (vs : List Value) : Option Value :=
  if vs.all flat then
    match pureRun P (flatSem o vs) with
    | some v => if flat v then some v else none
    | none => none
  else none

/-- 'k.wrap', for running. -/
def aw (k : IntKind) (n : Int) : Int :=
  match k with
  | .i64 => (n + 9223372036854775808) % 18446744073709551616 - 9223372036854775808
  | .u64 => n % 18446744073709551616
  | .u8 => n % 256
  | k => k.wrap n
def abits (op : BinOp) (k : IntKind) (a b : Int) : Int :=
  match op with
  | .and => aw k (BitVec.ofInt k.bits a &&& BitVec.ofInt k.bits b).toNat
  | .or => aw k (BitVec.ofInt k.bits a ||| BitVec.ofInt k.bits b).toNat
  | .xor => aw k (BitVec.ofInt k.bits a ^^^ BitVec.ofInt k.bits b).toNat
  | _ => aw k (BitVec.ofInt k.bits a &&& ~~~ BitVec.ofInt k.bits b).toNat
def someInt (k : IntKind) (n : Int) : Option Value := some (.int k n)
def someBool (b : Bool) : Option Value := some (.bool b)
def ashl (k : IntKind) (a b : Int) : Option Value := if b < 0 then none else someInt k (aw k (a * 2 ^ (min b.toNat k.bits)))
def ashr (k : IntKind) (a b : Int) : Option Value := if b < 0 then none else someInt k (a.fdiv (2 ^ (min b.toNat k.bits)))
def aquo (k : IntKind) (a b : Int) : Option Value := if b = 0 then none else someInt k (aw k (a.tdiv b))
def arem (k : IntKind) (a b : Int) : Option Value := if b = 0 then none else someInt k (a.tmod b)
def abinI (op : BinOp) (k : IntKind) (a b : Int) : Option Value :=
  match op with
  | .add => someInt k (aw k (a + b))
  | .sub => someInt k (aw k (a - b))
  | .mul => someInt k (aw k (a * b))
  | .quo => aquo k a b
  | .rem => arem k a b
  | .eql => someBool (a == b)
  | .neq => someBool (a != b)
  | .lss => someBool (a < b)
  | .leq => someBool (a ≤ b)
  | .gtr => someBool (a > b)
  | .geq => someBool (a ≥ b)
  | .shl => none
  | .shr => none
  | .and => someInt k (abits .and k a b)
  | .or => someInt k (abits .or k a b)
  | .xor => someInt k (abits .xor k a b)
  | .andNot => someInt k (abits .andNot k a b)
def abinK (op : BinOp) (k k' : IntKind) (a b : Int) : Option Value :=
  match op with
  | .shl => ashl k a b
  | .shr => ashr k a b
  | op => if k = k' then abinI op k a b else none
def abin (op : BinOp) (x y : Value) : Option Value :=
  match x, y with
  | .int k a, .int k' b => abinK op k k' a b
  | _, _ => none
/-- '==' of a slice, a pointer or a function with nil. -/
def aeqn (kd : Nat) (a b : Value) : Option Bool :=
  match kd, a, b with
  | 0, .slice none _ _, .slice b _ _ => some b.isNone
  | 0, .slice _ _ _, .slice none _ _ => some false
  | 1, .pointer none, .pointer b => some b.isNone
  | 1, .pointer _, .pointer none => some false
  | 2, .nilFunc, .nilFunc => some true
  | 2, .nilFunc, .func _ _ _ => some false
  | 2, .func _ _ _, .nilFunc => some false
  | _, _, _ => none

/-- Enough to tell that two cells are the same. -/
def veq1 : Value → Value → Bool
  | .bool a, .bool b => a == b
  | .int k a, .int l b => k == l && a == b
  | .string a, .string b => a == b
  | .pointer a, .pointer b => a == b
  | .slice a n c, .slice b m d => a == b && n == m && c == d
  | .nilFunc, .nilFunc => true
  | .nilIface, .nilIface => true
  | .func f a c, .func g b d => f == g && a.toList.isEmpty && b.toList.isEmpty && c.toList.isEmpty && d.toList.isEmpty
  | _, _ => false
def veqs : List Value → List Value → Bool
  | [], [] => true
  | a :: r, b :: s => veq1 a b && veqs r s
  | _, _ => false
def veq : Value → Value → Bool
  | .agg a, .agg b => veqs a.toList b.toList
  | .func f a c, .func g b d => f == g && veqs a.toList b.toList && veqs c.toList d.toList
  | a, b => veq1 a b

/-! ### The heap -/
def acells (cs : List Value) (n : Option Nat) (off : Nat) : Option Value :=
  match n with
  | none => cs[off]?
  | some n => if off + n ≤ cs.length then some (.agg ((cs.drop off).take n).toArray) else none
def arow (H : AH V) (b : Nat) : Option (List Value) :=
  match Vec.get H b with
  | some (.arr cs _ _) => some cs
  | _ => none
def aload (H : AH V) (n : Option Nat) (v : Value) : Option Value :=
  match v with
  | .pointer (some ⟨b, off, none⟩) => match arow H b with
    | some cs => acells cs n off
    | none => none
  | _ => none
def splice : List Value → Nat → List Value → List Value
  | cs, _, [] => cs
  | cs, off, v :: r => splice (cs.set off v) (off + 1) r
/-- A store of cells into a block that may be written. -/
def aput' (H : AH V) (b off : Nat) (vs : List Value) : Option (AH V) :=
  match Vec.get H b with
  | some (.arr cs true lo) =>
    if lo ≤ off ∧ off + vs.length ≤ cs.length ∧ vs.all oneCell = true then some (Vec.set H b (.arr (splice cs off vs) true lo)) else none
  | _ => none
def astore (H : AH V) (n : Nat) (p v : Value) : Option (AH V) :=
  match p with
  | .pointer (some ⟨b, off, none⟩) => if v.cells.toList.length = n then aput' H b off v.cells.toList else none
  | _ => none
def anew (H : AH V) (cs : List Value) : AH V := Vec.push H (.arr cs true 0)

def afill (cs : List Value) : List (Nat × Nat × Value) → Option (List Value)
  | [] => some cs
  | (off, size, v) :: r =>
    if v.cells.toList.length = size ∧ off + size ≤ cs.length then afill (splice cs off v.cells.toList) r else none
/-- A bound of a slice, between 0 and m. -/
def abound (v : Value) (m : Nat) : Option Nat :=
  match v with
  | .int _ i => if 0 ≤ i ∧ i ≤ m then some i.toNat else none
  | _ => none
def aoptb (v : Option Value) (d m : Nat) : Option Nat :=
  match v with
  | some v => abound v m
  | none => some d
/-- The cap of an abstract slice is 2 * cap + e; e = 1: just so many; e = 0: so many, or more. -/
def acut (size : Nat) (a : Addr) (m h l e : Nat) : Option Value :=
  if m = l then (if e = 1 then some (.slice (some a) (h - l) 1) else if h = l then some (.slice (some a) 0 0) else none)
  else some (.slice (some (a.add (l * size))) (h - l) (2 * (m - l) + e))
def asliceS (size : Nat) (a : Option Addr) (n ce : Nat) (lo hi mx : Option Value) : Option Value :=
  if (mx.isSome && hi.isNone) || decide (ce / 2 < n) then none else
  match aoptb mx (ce / 2) (ce / 2) with
  | none => none
  | some m =>
    match aoptb hi n m with
    | none => none
    | some h =>
      match aoptb lo 0 h with
      | none => none
      | some l =>
        match a with
        | none => if n = 0 ∧ ce = 0 then some (.slice none 0 0) else none
        | some a => acut size a m h l (if mx.isSome then 1 else ce % 2)
def asliceV (size : Nat) (v : Value) (lo hi mx : Option Value) : Option Value :=
  match v with
  | .slice a n ce => asliceS size a n ce lo hi mx
  | _ => none
def aslarr (len size : Nat) (v : Value) (lo hi mx : Option Value) : Option Value :=
  match v with
  | .pointer (some a) =>
    if (mx.isSome && hi.isNone) then none else
    match aoptb mx len len with
    | none => none
    | some m =>
      match aoptb hi len m with
      | none => none
      | some h =>
        match aoptb lo 0 h with
        | none => none
        | some l => some (.slice (some (if m = l then a else a.add (l * size))) (h - l) (2 * (m - l) + 1))
  | _ => none
def aindex (size : Nat) (x i : Value) : Option Value :=
  match x, i with
  | .slice (some a) n _, .int _ i => if 0 ≤ i ∧ i < n then some (.pointer (some (a.add (i.toNat * size)))) else none
  | _, _ => none
def aindexA (len size : Nat) (x i : Value) : Option Value :=
  match x, i with
  | .pointer (some a), .int _ i => if 0 ≤ i ∧ i < len then some (.pointer (some (a.add (i.toNat * size)))) else none
  | _, _ => none

/-- The cells of what is appended or copied: so many elements. -/
def asrc (H : AH V) (size n : Nat) (x : Value) : Option (List Value) :=
  match x with
  | .slice (some ⟨b, off, none⟩) _ _ => match arow H b with
    | some cs => if off + n * size ≤ cs.length then some ((cs.drop off).take (n * size)) else none
    | none => none
  | .slice (some ⟨_, _, some _⟩) _ _ => if n = 0 then some [] else none
  | .slice none _ _ => if n = 0 then some [] else none
  | .string s => if size = 1 then some ((s.data.toList.take n).map fun b => .int .u8 b.toNat) else none
  | _ => none
def alen (x : Value) : Option Nat :=
  match x with
  | .slice _ n _ => some n
  | .string s => some s.size
  | _ => none
def room : Nat := 140737488355328

def aappend (share : Bool) (size bytes : Nat) (H : AH V) (s x : Value) : Option (Value × AH V) :=
  match s, alen x with
  | .slice base n ce, some k =>
    match asrc H size k x with
    | none => none
    | some new =>
      if new.all oneCell = false ∨ room < (n + k) * bytes then none else
      match base with
      | none => if n = 0 ∧ ce = 0 then (if k = 0 then some (.slice none 0 0, H) else some (.slice (some ⟨Vec.size H, 0, none⟩) k (2 * k), anew H new)) else none
      | some ⟨b, off, none⟩ =>
        if n + k ≤ ce / 2 then
          match aput' H b (off + n * size) new with
          | some H' => some (.slice (some ⟨b, off, none⟩) (n + k) ce, H')
          | none => none
        else if k = 0 then none else
        match Vec.get H b with
        | some (.arr cs w lo) =>
          if off + n * size ≤ cs.length then
            let old := (cs.drop off).take (n * size)
            if ce % 2 = 1 then some (.slice (some ⟨Vec.size H, 0, none⟩) (n + k) (2 * (n + k)), anew H (old ++ new))
            else if ce = 0 ∨ w = false ∨ off ≠ 0 ∨ n ≠ ce / 2 ∨ n * size ≠ cs.length then none
            else if share = true ∧ lo ≤ cs.length then
              some (.slice (some ⟨Vec.size H, 0, none⟩) (n + k) (2 * (n + k)), Vec.push (Vec.set H b (.arr cs false 0)) (.arr (old ++ new) true (n * size)))
            else if lo = 0 then some (.slice (some ⟨Vec.size H, 0, none⟩) (n + k) (2 * (n + k)), anew (Vec.set H b .dead) (old ++ new))
            else none
          else none
        | _ => none
      | _ => none
  | _, _ => none

def acopy (size : Nat) (H : AH V) (d s : Value) : Option (Value × AH V) :=
  match d, alen s with
  | .slice base n _, some k =>
    match asrc H size (min k n) s with
    | none => none
    | some cells =>
      match base with
      | none => some (.int .i64 ((min k n : Nat) : Int), H)
      | some ⟨b, off, none⟩ =>
        if min k n = 0 then some (.int .i64 0, H) else
        match aput' H b off cells with
        | some H' => some (.int .i64 ((min k n : Nat) : Int), H')
        | none => none
      | _ => none
  | _, _ => none

def amkslice (zero : List Value) (bytes : Nat) (H : AH V) (l c : Value) : Option (Value × AH V) :=
  match l, c with
  | .int _ l, .int _ c =>
    if 0 ≤ l ∧ l ≤ c ∧ c * bytes ≤ 281474976710656 ∧ c ≤ 9223372036854775807 then
      some (.slice (some ⟨Vec.size H, 0, none⟩) l.toNat (2 * c.toNat + 1), anew H (List.replicate c.toNat zero).flatten)
    else none
  | _, _ => none

def bytesOf (s : ByteArray) : List UInt8 := s.data.toList
def strOf (l : List UInt8) : Value := .string ⟨l.toArray⟩
def lessB : List UInt8 → List UInt8 → Bool
  | _, [] => false
  | [], _ :: _ => true
  | a :: x, b :: y => a < b || (a == b && lessB x y)
def sbinS (op : BinOp) (x y : ByteArray) : Option Value :=
  match op with
  | .add => if ((x.size + y.size : Nat) : Int) > 9223372036854775807 then none else some (strOf (bytesOf x ++ bytesOf y))
  | .eql => some (.bool (bytesOf x == bytesOf y))
  | .neq => some (.bool (!(bytesOf x == bytesOf y)))
  | .lss => some (.bool (lessB (bytesOf x) (bytesOf y)))
  | .leq => some (.bool (lessB (bytesOf x) (bytesOf y) || bytesOf x == bytesOf y))
  | .gtr => some (.bool (!(lessB (bytesOf x) (bytesOf y) || bytesOf x == bytesOf y)))
  | .geq => some (.bool (!lessB (bytesOf x) (bytesOf y)))
  | _ => none
def fSbin (op : BinOp) (a b : Value) : Option Value := match a, b with | .string x, .string y => sbinS op x y | _, _ => none
def fSidx (a i : Value) : Option Value :=
  match a, i with
  | .string s, .int _ i => if 0 ≤ i then (match (bytesOf s)[i.toNat]? with | some b => some (.int .u8 b.toNat) | none => none) else none
  | _, _ => none
def fSlen (a : Value) : Option Value := match a with | .string s => some (.int .i64 (bytesOf s).length) | _ => none
def fScut (a : Value) (lo hi : Option Value) : Option Value :=
  match a with
  | .string s =>
    match aoptb hi (bytesOf s).length (bytesOf s).length with
    | none => none
    | some h => (match aoptb lo 0 h with
      | none => none
      | some l => some (strOf (((bytesOf s).drop l).take (h - l))))
  | _ => none

/-- With what is left as it was. -/
def withH (H : AH V) : Option Value → Option (Value × AH V)
  | some v => some (v, H)
  | none => none
section
variable {χ : Type}
def evs (ev : χ → Option Value) : List χ → Option (List Value)
  | [] => some []
  | x :: r => match ev x with
    | some v => (match evs ev r with | some vs => some (v :: vs) | none => none)
    | none => none
def xPick (ev : χ → Option Value) (c a b : χ) : Option Value :=
  match ev c with
  | some (.bool t) => ev (bif t then a else b)
  | _ => none
def x2 {α : Type} (f : Value → Value → Option α) (ev : χ → Option Value) (x y : χ) : Option α :=
  match ev x with
  | some a => (match ev y with | some b => f a b | none => none)
  | none => none
def x1 {α : Type} (f : Value → Option α) (ev : χ → Option Value) (x : χ) : Option α :=
  match ev x with
  | some a => f a
  | none => none
def xs {α : Type} (f : List Value → Option α) (ev : χ → Option Value) (x : List χ) : Option α :=
  match evs ev x with
  | some a => f a
  | none => none
def xo (ev : χ → Option Value) : Option χ → Option (Option Value)
  | none => some none
  | some x => match ev x with | some v => some (some v) | none => none
def fEqn (kd : Nat) (neg : Bool) (a b : Value) : Option Value := match aeqn kd a b with | some t => some (.bool (t != neg)) | none => none
def fNot (a : Value) : Option Value := match a with | .bool b => some (.bool (!b)) | _ => none
def fConv (k : IntKind) (a : Value) : Option Value := match a with | .int _ n => some (.int k (aw k n)) | _ => none
def fBeq (neg : Bool) (a b : Value) : Option Value := match a, b with | .bool a, .bool b => some (.bool ((a == b) != neg)) | _, _ => none
def fStore (n : Nat) (H : AH V) (p v : Value) : Option (Value × AH V) := match astore H n p v with | some H' => some (undef, H') | none => none
def newPtr (H : AH V) (cs : List Value) : Option (Value × AH V) := some (.pointer (some ⟨Vec.size H, 0, none⟩), anew H cs)
def fBox (H : AH V) (v : Value) : Option (Value × AH V) := if v.cells.toList.all oneCell then newPtr H v.cells.toList else none
def xParts (ev : χ → Option Value) : List (Nat × Nat × χ) → Option (List (Nat × Nat × Value))
  | [] => some []
  | (o, s, x) :: r => match ev x with
    | some v => (match xParts ev r with | some vs => some ((o, s, v) :: vs) | none => none)
    | none => none
def xBuild (ev : χ → Option Value) (cs : List Value) (ps : List (Nat × Nat × χ)) : Option Value :=
  match xParts ev ps with
  | some l => (match afill cs l with | some c => some (.agg c.toArray) | none => none)
  | none => none
def xMkarr (ev : χ → Option Value) (H : AH V) (n : Nat) (cs : List Value) (ps : List (Nat × Nat × χ)) : Option (Value × AH V) :=
  match xParts ev ps with
  | some l => (match afill cs l with | some c => if c.all oneCell then some (.slice (some ⟨Vec.size H, 0, none⟩) n (2 * n + 1), anew H c) else none | none => none)
  | none => none
def xCut (f : Value → Option Value → Option Value → Option Value → Option Value) (ev : χ → Option Value) (x : χ) (lo hi mx : Option χ) : Option Value :=
  match ev x, xo ev lo, xo ev hi, xo ev mx with
  | some v, some lo, some hi, some mx => f v lo hi mx
  | _, _, _, _ => none
def xScut (ev : χ → Option Value) (x : χ) (lo hi : Option χ) : Option Value :=
  match ev x, xo ev lo, xo ev hi with
  | some v, some lo, some hi => fScut v lo hi
  | _, _, _ => none
def fFaddr (off : Nat) (a : Value) : Option Value := match a with | .pointer (some a) => some (.pointer (some (a.add off))) | _ => none
def fFld (n : Option Nat) (off : Nat) (a : Value) : Option Value := match a with | .agg cs => acells cs.toList n off | _ => none
def fExt (i : Nat) (a : Value) : Option Value := match a with | .tuple vs => vs.toList[i]? | _ => none
def xMkfn (ev : χ → Option Value) (f : FuncId) (first captured : List χ) : Option Value :=
  match evs ev first, evs ev captured with
  | some a, some c => some (.func (.func f) a.toArray c.toArray)
  | _, _ => none
def fNilchk (a : Value) : Option Value :=
  match a with
  | .pointer (some a) => some (.pointer (some a))
  | .func (.func f) a c => some (.func (.func f) a c)
  | _ => none
def fLen (a : Value) : Option Value := match a with | .slice _ n _ => some (.int .i64 n) | _ => none
def xCall (call : Value → List Value → AH V → Option (Value × AH V)) (ev : χ → Option Value) (H : AH V) (f : χ) (args : List χ) : Option (Value × AH V) :=
  match ev f, evs ev args with
  | some fv, some vs => call fv vs H
  | _, _ => none

/-- One operation; 'call' tells what a call comes to. -/
def aexec (P : Program) (call : Value → List Value → AH V → Option (Value × AH V)) (op : AOp χ) (ev : χ → Option Value) (H : AH V) : Option (Value × AH V) :=
  match op with
  | .bad => none
  | .mov x => withH H (ev x)
  | .pick c a b => withH H (xPick ev c a b)
  | .bin op x y => withH H (x2 (abin op) ev x y)
  | .eqn kd neg x y => withH H (x2 (fEqn kd neg) ev x y)
  | .not x => withH H (x1 fNot ev x)
  | .conv k x => withH H (x1 (fConv k) ev x)
  | .beq neg x y => withH H (x2 (fBeq neg) ev x y)
  | .flat o l => withH H (xs (aflat P o) ev l)
  | .sbin op x y => withH H (x2 (fSbin op) ev x y)
  | .sidx x i => withH H (x2 fSidx ev x i)
  | .slen x => withH H (x1 fSlen ev x)
  | .scut x lo hi => withH H (xScut ev x lo hi)
  | .load n a => withH H (x1 (aload H n) ev a)
  | .store n a x => x2 (fStore n H) ev a x
  | .alloc cs => newPtr H cs
  | .box x => x1 (fBox H) ev x
  | .build cs ps => withH H (xBuild ev cs ps)
  | .mkarr n cs ps => xMkarr ev H n cs ps
  | .mkslice zero bytes l c => x2 (amkslice zero bytes H) ev l c
  | .slice size x lo hi mx => withH H (xCut (asliceV size) ev x lo hi mx)
  | .slarr len size x lo hi mx => withH H (xCut (aslarr len size) ev x lo hi mx)
  | .faddr off x => withH H (x1 (fFaddr off) ev x)
  | .fld n off x => withH H (x1 (fFld n off) ev x)
  | .iaddr size x i => withH H (x2 (aindex size) ev x i)
  | .iarr len size x i => withH H (x2 (aindexA len size) ev x i)
  | .ext x i => withH H (x1 (fExt i) ev x)
  | .mkfn f first captured => withH H (xMkfn ev f first captured)
  | .nilchk x => withH H (x1 fNilchk ev x)
  | .len x => withH H (x1 fLen ev x)
  | .append share size bytes s x => x2 (aappend share size bytes H) ev s x
  | .copy size d s => x2 (acopy size H) ev d s
  | .call f args => xCall call ev H f args
end

/-! ### Running -/
inductive Task (V : Type → Type)
  | code (inR : Bool) (c : ACode) (T : AT) (H : AH V) (ds : List Nat)
  | scope (inR : Bool) (b cur : ACode) (T : AT) (H : AH V) (ds : List Nat)
  | call (f : FuncId) (args : List Value) (H : AH V)
  | round (l : Nat) (args : List Value) (H : AH V)
structure Res (V : Type → Type) where
  e : AE
  T : AT
  H : AH V
  ds : List Nat
  v : Value := undef

structure Env (V : Type → Type) where
  P : Program
  fn : FuncId → Option AFunc
  /-- What is proved otherwise of a function. -/
  ext : FuncId → List Value → AH V → Option (Value × AH V)

def acallV (rec : Task V → Option (Res V)) (fv : Value) (args : List Value) (H : AH V) : Option (Value × AH V) :=
  match fv with
  | .func (.func f) first captured => match rec (.call f (first.toList ++ args ++ captured.toList) H) with
    | some ⟨_, _, H', _, v⟩ => some (v, H')
    | _ => none
  | .func (.yield l) ⟨[]⟩ ⟨[]⟩ => match rec (.round l args H) with
    | some ⟨_, _, H', _, v⟩ => some (v, H')
    | _ => none
  | _ => none

def aback (T0 L : List Value) : List (Nat × Src) → AT → Option AT
  | [], T => some T
  | (i, s) :: r, T => match sev T0 L s with
    | some v => aback T0 L r (T.set i v)
    | none => none
def aops (P : Program) (call : Value → List Value → AH V → Option (Value × AH V)) (T : AT) : List AOper → List Value → AH V → Option (List Value × AH V)
  | [], L, H => some (L, H)
  | o :: r, L, H =>
    match awanted T L o.g with
    | true => (match aexec P call o.op (sev T L) H with
      | some (v, H') => aops P call T r (v :: L) H'
      | none => none)
    | false => aops P call T r (undef :: L) H

/-- A load in a region that draws tells the same behind each effect that it needn't wait for: 'snaps': the heaps behind the effects so far, the last first. -/
def stable (snaps : List (AH V)) (k : Nat) (n : Option Nat) (p v : Value) : Bool :=
  (snaps.take k).all fun H => match aload H n p with | some u => veq u v | none => false
def loadOk (T L : List Value) (snaps : List (AH V)) (lo : Nat) (op : AOp Src) (v : Value) : Bool :=
  match op with
  | .load n a => (match sev T L a with | some p => stable (snaps.drop 1) (snaps.length - 1 - lo) n p v | none => false)
  | _ => true
def adraw (P : Program) (call : Value → List Value → AH V → Option (Value × AH V)) (T : AT) : List AOper → List (AH V) → List Value → AH V → Option (List Value × AH V)
  | [], _, L, H => some (L, H)
  | o :: r, snaps, L, H =>
    match awanted T L o.g with
    | true => (match aexec P call o.op (sev T L) H with
      | some (v, H') => (match (bif loadOk T L snaps o.lo o.op v then Nat.ble (Vec.size H) (Vec.size H') else false) with
        | true => adraw P call T r (bif isEff o.op then H' :: snaps else snaps) (v :: L) H'
        | false => none)
      | none => none)
    | false => adraw P call T r (bif isEff o.op then H :: snaps else snaps) (undef :: L) H

def afind : ACode → Nat → Option ACode
  | .seq a b, l => match afind a l with
    | some rest => some (.seq rest b)
    | none => afind b l
  | .label l', l => if l' == l then some .skip else none
  | _, _ => none

def ares (T : AT) (H : AH V) : List ARes → Option (List Value)
  | [] => some []
  | r :: rs => match (match r with | .tmp t => T[t]? | .cell t n => x1 (aload H n) (T[·]?) t) with
    | some v => (match ares T H rs with | some vs => some (v :: vs) | none => none)
    | none => none
def pack : List Value → Value
  | [v] => v
  | vs => .tuple vs.toArray
/-- The blocks of deferred calls are taken. -/
def shut (H : AH V) : List Nat → Option (AH V)
  | [] => some H
  | d :: ds => match Vec.get H d with
    | some .defr => shut (Vec.set H d .dead) ds
    | _ => none

def setParams (T : AT) : List (Option Nat) → List Value → Option AT
  | [], [] => some T
  | some p :: ps, v :: vs => setParams (T.set p v) ps vs
  | none :: ps, _ :: vs => setParams T ps vs
  | _, _ => none

def sSeq (rec : Task V → Option (Res V)) (inR : Bool) (b : ACode) (r : Option (Res V)) : Option (Res V) :=
  match r with
  | some ⟨.norm, T, H, ds, _⟩ => rec (.code inR b T H ds)
  | r => r
def sCond (rec : Task V → Option (Res V)) (inR : Bool) (a b : ACode) (T : AT) (H : AH V) (ds : List Nat) (v : Option Value) : Option (Res V) :=
  match v with
  | some (.bool t) => rec (.code inR (bif t then a else b) T H ds)
  | _ => none
def sBlock (id : Nat) (r : Option (Res V)) : Option (Res V) :=
  match r with
  | some ⟨.exit i, T, H, ds, v⟩ => bif Nat.beq i id then some ⟨.norm, T, H, ds, v⟩ else some ⟨.exit i, T, H, ds, v⟩
  | r => r
def sRegion (T : AT) (back : List (Nat × Src)) (ds : List Nat) (r : Option (List Value × AH V)) : Option (Res V) :=
  match r with
  | some (L, H) => (match aback T L back T with | some T' => some ⟨.norm, T', H, ds, undef⟩ | none => none)
  | none => none
def sScope (rec : Task V → Option (Res V)) (inR : Bool) (b : ACode) (r : Option (Res V)) : Option (Res V) :=
  match r with
  | some ⟨.goto l, T, H, ds, v⟩ => (match afind b l with
    | some rest => rec (.scope inR b rest T H ds)
    | none => some ⟨.goto l, T, H, ds, v⟩)
  | r => r
/-- Behind a range over a function: the loop's record is l; the block of deferred calls is d. -/
def sRangeEnd (l d : Nat) (T : AT) (ds : List Nat) (r : Option (Res V)) : Option (Res V) :=
  match r with
  | some ⟨_, _, H, _, _⟩ =>
    match Vec.get H l with
    | some (.loop _ _ _ _ .ready none) => some ⟨.norm, T, Vec.set H l .dead, d :: ds, undef⟩
    | some (.loop _ _ _ _ .done (some e)) => some ⟨e, T, Vec.set H l .dead, d :: ds, undef⟩
    | _ => none
  | none => none
def sRange (rec : Task V → Option (Res V)) (inR : Bool) (ps : List (Option Nat)) (assign body : ACode) (T : AT) (H : AH V) (ds : List Nat) (g : Option Value) : Option (Res V) :=
  match inR, g with
  | false, some (.func (.func f) first captured) =>
    sRangeEnd (Vec.size H + 1) (Vec.size H) T ds (rec (.call f (first.toList ++ [.func (.yield (Vec.size H + 1)) #[] #[]] ++ captured.toList) (Vec.push (Vec.push H .defr) (.loop T ps assign body .ready none))))
  | _, _ => none
def sRet (fn : AFunc) (T : AT) (H : Option (AH V)) : Option (Res V) :=
  match H with
  | some H => (match ares T H fn.res with | some vs => some ⟨.norm, [], H, [], pack vs⟩ | none => none)
  | none => none
def sCallEnd (fn : AFunc) (r : Option (Res V)) : Option (Res V) :=
  match r with
  | some ⟨.norm, T, H, ds, _⟩ => sRet fn T (shut H ds)
  | some ⟨.ret, T, H, ds, _⟩ => sRet fn T (shut H ds)
  | _ => none
def sCall (rec : Task V → Option (Res V)) (args : List Value) (H : AH V) (fn : Option AFunc) : Option (Res V) :=
  match fn with
  | some fn => sCallEnd fn (rec (.code false fn.body (fn.keep.map fun t => (args[t]?).getD undef) H []))
  | none => none
def sExt (x : Option (Value × AH V)) (r : Option (Res V)) : Option (Res V) :=
  match x with
  | some (v, H') => some ⟨.norm, [], H', [], v⟩
  | none => r
def toBusy (b : Option Blk) : Option Blk :=
  match b with
  | some (.loop T ps as_ bd .ready none) => some (.loop T ps as_ bd .busy none)
  | _ => none
def toEnd (e : AE) (b : Option Blk) : Option Blk :=
  match b with
  | some (.loop T ps as_ bd .busy none) => (match e with
    | .norm => some (.loop T ps as_ bd .ready none)
    | e => some (.loop T ps as_ bd .done (some e)))
  | _ => none
def isNorm : AE → Bool | .norm => true | _ => false
def sRoundEnd (l : Nat) (r : Option (Res V)) : Option (Res V) :=
  match r with
  | some ⟨e, _, H, [], _⟩ =>
    (match toEnd e (Vec.get H l) with
    | some B => some ⟨.norm, [], Vec.set H l B, [], .bool (isNorm e)⟩
    | none => none)
  | _ => none
def sRoundMid (rec : Task V → Option (Res V)) (l : Nat) (body : ACode) (r : Option (Res V)) : Option (Res V) :=
  match r with
  | some ⟨.norm, T2, H2, [], _⟩ =>
    (match toBusy (Vec.get H2 l) with
    | some B => sRoundEnd l (rec (.code true body T2 (Vec.set H2 l B) []))
    | none => none)
  | _ => none
def sRound (rec : Task V → Option (Res V)) (l : Nat) (args : List Value) (H : AH V) (b : Option Blk) : Option (Res V) :=
  match b with
  | some (.loop T ps assign body .ready none) =>
    (match setParams T ps args with
    | some T1 => sRoundMid rec l body (rec (.code true assign T1 H []))
    | none => none)
  | _ => none
def sCode (E : Env V) (rec : Task V → Option (Res V)) (inR : Bool) (c : ACode) (T : AT) (H : AH V) (ds : List Nat) : Option (Res V) :=
  match c with
  | .bad => none
  | .skip => some ⟨.norm, T, H, ds, undef⟩
  | .label _ => some ⟨.norm, T, H, ds, undef⟩
  | .ret => some ⟨.ret, T, H, ds, undef⟩
  | .exit id => some ⟨.exit id, T, H, ds, undef⟩
  | .goto l => some ⟨.goto l, T, H, ds, undef⟩
  | .seq a b => sSeq rec inR b (rec (.code inR a T H ds))
  | .cond c a b => sCond rec inR a b T H ds (sev T [] c)
  | .block id b => sBlock id (rec (.code inR b T H ds))
  | .loop b => sSeq rec inR (.loop b) (rec (.code inR b T H ds))
  | .scope b => rec (.scope inR b b T H ds)
  | .region ops back => sRegion T back ds (aops E.P (acallV rec) T ops [] H)
  | .draw ops back => sRegion T back ds (adraw E.P (acallV rec) T ops [H] [] H)
  | .rangeFunc g ps assign body => sRange rec inR ps assign body T H ds (sev T [] g)
def astep (E : Env V) (rec : Task V → Option (Res V)) : Task V → Option (Res V)
  | .code inR c T H ds => sCode E rec inR c T H ds
  | .scope inR b cur T H ds => sScope rec inR b (rec (.code inR cur T H ds))
  | .call f args H => sExt (E.ext f args H) (sCall rec args H (E.fn f))
  | .round l args H => sRound rec l args H (Vec.get H l)

def arun (E : Env V) : Nat → Task V → Option (Res V)
  | 0, _ => none
  | n + 1, t => astep E (arun E n) t

/-- A call, where it comes to something. -/
def acall (E : Env V) (n : Nat) (f : FuncId) (args : List Value) (H : AH V) : Option (Value × AH V) :=
  match arun E n (.call f args H) with
  | some ⟨_, _, H', _, v⟩ => some (v, H')
  | _ => none

end
end Go.Proofs.Ytdbehmepikhghaa.AM
