import Derived.RangeFuncLeaves
import Derived.OrdersIn
import Derived.Deep.AppendSrc
import Derived.Below
import Derived.Deep.MidRow
import Derived.Laws.IdiomCopy
import Derived.Laws.Strings
import Derived.Laws.MakeOwn
import Derived.Laws.Externs
import Derived.TacticsIn
set_option linter.unusedVariables false
set_option linter.unusedSimpArgs false
namespace Go.Proofs.Ytggaimcopbjdiaa.AM
def flat1 : Value → Bool
 | .bool _ | .int _ _ | .string _ | .float _ _ | .complex _ _ _ | .nilFunc | .nilIface => true
 | .pointer none => true
 | .slice none 0 0 => true
 | _ => false
def flat : Value → Bool
 | .agg cs => cs.toList.all flat1
 | .tuple vs => vs.toList.isEmpty
 | v => flat1 v
def oneCell : Value → Bool
 | .agg _ | .tuple _ => false
 | _ => true
class Vec (V : Type → Type) where
 emp {α : Type} : V α
 get {α : Type} : V α → Nat → Option α
 set {α : Type} : V α → Nat → α → V α
 push {α : Type} : V α → α → V α
 size {α : Type} : V α → Nat
 get_emp {α : Type} (i : Nat) : get (emp : V α) i = none
 get_set {α : Type} (v : V α) (i j : Nat) (a : α) : get (set v i a) j = if i = j ∧ j < size v then some a else get v j
 get_push {α : Type} (v : V α) (j : Nat) (a : α) : get (push v a) j = if j = size v then some a else get v j
 size_emp {α : Type} : size (emp : V α) = 0
 size_set {α : Type} (v : V α) (i : Nat) (a : α) : size (set v i a) = size v
 size_push {α : Type} (v : V α) (a : α) : size (push v a) = size v + 1
 get_lt {α : Type} (v : V α) (i : Nat) (a : α) : get v i = some a → i < size v
instance : Vec List where
 emp := []
 get l i := l[i]?
 set l i a := l.set i a
 push l a := l ++ [a]
 size l := l.length
 get_emp i := by simp
 get_set v i j a := by
  rw [List.getElem?_set]
  by_cases h : i = j
  ·subst h
   by_cases h2 : i < v.length
   ·simp [h2]
   ·simp [h2]
  ·simp [h]
 get_push v j a := by
  by_cases h : j < v.length
  ·rw [List.getElem?_append_left h, if_neg (by omega)]
  ·by_cases h2 : j = v.length
   ·subst h2; simp
   ·rw [if_neg h2, List.getElem?_eq_none (by simp; omega), List.getElem?_eq_none (by omega)]
 size_emp := rfl
 size_set v i a := by simp
 size_push v a := by simp
 get_lt v i a h := (List.getElem?_eq_some_iff.1 h).1
def pathF : Nat → Nat → List Bool
 | 0, _ => []
 | f + 1, i => bif Nat.beq i 0 then [] else bif Nat.beq (i % 2) 1 then true :: pathF f (i / 2) else false :: pathF f (i / 2 - 1)
def path (i : Nat) : List Bool := pathF i i
theorem bif_ite {α : Type} (p : Prop) [Decidable p] (b : Bool) (h : (b = true) = p) (x y : α) : (bif b then x else y) = if p then x else y := by
 cases b
 ·rw [if_neg (fun hp => by rw [← h] at hp; exact absurd hp (by simp))]; rfl
 ·rw [if_pos (h ▸ rfl)]; rfl
theorem pathF_inj : ∀ (f g i j : Nat), i ≤ f → j ≤ g → pathF f i = pathF g j → i = j
 | 0, 0, i, j, hi, hj, _ => by omega
 | 0, g + 1, i, j, hi, hj, h => by
   simp only [pathF, bif_ite (j = 0) _ Nat.beq_eq, bif_ite (j % 2 = 1) _ Nat.beq_eq] at h
   by_cases e : j = 0
   ·omega
   ·rw [if_neg e] at h; split at h <;> cases h
 | f + 1, 0, i, j, hi, hj, h => by
   simp only [pathF, bif_ite (i = 0) _ Nat.beq_eq, bif_ite (i % 2 = 1) _ Nat.beq_eq] at h
   by_cases e : i = 0
   ·omega
   ·rw [if_neg e] at h; split at h <;> cases h
 | f + 1, g + 1, i, j, hi, hj, h => by
   simp only [pathF, bif_ite (i = 0) _ Nat.beq_eq, bif_ite (i % 2 = 1) _ Nat.beq_eq, bif_ite (j = 0) _ Nat.beq_eq, bif_ite (j % 2 = 1) _ Nat.beq_eq] at h
   by_cases ei : i = 0
   ·by_cases ej : j = 0
    ·omega
    ·rw [if_pos ei, if_neg ej] at h; split at h <;> cases h
   ·by_cases ej : j = 0
    ·rw [if_neg ei, if_pos ej] at h; split at h <;> cases h
    ·rw [if_neg ei, if_neg ej] at h
     by_cases oi : i % 2 = 1
     ·by_cases oj : j % 2 = 1
      ·rw [if_pos oi, if_pos oj] at h
       injection h with _ h
       have := pathF_inj f g (i / 2) (j / 2) (by omega) (by omega) h
       omega
      ·rw [if_pos oi, if_neg oj] at h; injection h with h _; cases h
     ·by_cases oj : j % 2 = 1
      ·rw [if_neg oi, if_pos oj] at h; injection h with h _; cases h
      ·rw [if_neg oi, if_neg oj] at h
       injection h with _ h
       have := pathF_inj f g (i / 2 - 1) (j / 2 - 1) (by omega) (by omega) h
       omega
theorem path_inj {i j : Nat} (h : path i = path j) : i = j := pathF_inj i j i j (Nat.le_refl _) (Nat.le_refl _) h
inductive Tr (α : Type) where
 | leaf
 | node (v : Option α) (l r : Tr α)
namespace Tr
def get {α : Type} : Tr α → List Bool → Option α
 | .leaf, _ => none
 | .node v _ _, [] => v
 | .node _ l r, b :: p => match b with
   | true => get l p
   | false => get r p
def set {α : Type} : List Bool → Tr α → α → Tr α
 | [], t, a => match t with
   | .leaf => .node (some a) .leaf .leaf
   | .node _ l r => .node (some a) l r
 | b :: p, t, a => match t with
   | .leaf => (match b with | true => .node none (set p .leaf a) .leaf | false => .node none .leaf (set p .leaf a))
   | .node v l r => (match b with | true => .node v (set p l a) r | false => .node v l (set p r a))
theorem get_set {α : Type} (a : α) : ∀ (p : List Bool) (t : Tr α) (q : List Bool), get (set p t a) q = if p = q then some a else get t q
 | [], .leaf, [] => by simp [set, get]
 | [], .leaf, c :: q => by cases c <;> simp [set, get]
 | [], .node v l r, [] => by simp [set, get]
 | [], .node v l r, c :: q => by cases c <;> simp [set, get]
 | b :: p, .leaf, [] => by cases b <;> simp [set, get]
 | b :: p, .leaf, c :: q => by
   cases b <;> cases c <;> simp [set, get, get_set a p .leaf q]
 | b :: p, .node v l r, [] => by cases b <;> simp [set, get]
 | b :: p, .node v l r, c :: q => by
   cases b <;> cases c <;> simp [set, get, get_set a p l q, get_set a p r q]
end Tr
inductive TV (α : Type) where
 | mk (n : Nat) (t : Tr α)
namespace TV
def size {α : Type} : TV α → Nat | .mk n _ => n
def get {α : Type} : TV α → Nat → Option α | .mk n t, i => bif Nat.ble (i + 1) n then t.get (path i) else none
def set {α : Type} : TV α → Nat → α → TV α | .mk n t, i, a => bif Nat.ble (i + 1) n then .mk n (t.set (path i) a) else .mk n t
def push {α : Type} : TV α → α → TV α | .mk n t, a => .mk (n + 1) (t.set (path n) a)
end TV
theorem Tr.get_set' {α : Type} (a : α) (t : Tr α) (i j : Nat) : (t.set (path i) a).get (path j) = if i = j then some a else t.get (path j) := by
 rw [Tr.get_set]
 by_cases e : i = j
 ·subst e; simp
 ·rw [if_neg e, if_neg (fun h => e (path_inj h))]
theorem ble_t {a b : Nat} (h : a ≤ b) : Nat.ble a b = true := by rw [Nat.ble_eq]; exact h
theorem ble_f {a b : Nat} (h : ¬ a ≤ b) : Nat.ble a b = false := by rw [← Bool.not_eq_true, Nat.ble_eq]; exact h
instance : Vec TV where
 emp := .mk 0 .leaf
 get := TV.get
 set := TV.set
 push := TV.push
 size := TV.size
 get_emp i := rfl
 get_set v i j a := by
  obtain ⟨n, t⟩ := v
  show TV.get (TV.set (.mk n t) i a) j = if i = j ∧ j < n then some a else TV.get (.mk n t) j
  by_cases h : i + 1 ≤ n
  ·have h1 : TV.set (.mk n t) i a = .mk n (t.set (path i) a) := by simp only [TV.set, ble_t h, cond_true]
   rw [h1]
   show (bif Nat.ble (j + 1) n then (t.set (path i) a).get (path j) else none) = _
   rw [Tr.get_set']
   by_cases e : i = j
   ·subst e; rw [ble_t h, if_pos rfl, if_pos ⟨rfl, h⟩]; rfl
   ·rw [if_neg e, if_neg (fun x => e x.1)]; rfl
  ·have h1 : TV.set (.mk n t) i a = .mk n t := by simp only [TV.set, ble_f h, cond_false]
   rw [h1, if_neg (by rintro ⟨rfl, h2⟩; omega)]
 get_push v j a := by
  obtain ⟨n, t⟩ := v
  show (bif Nat.ble (j + 1) (n + 1) then (t.set (path n) a).get (path j) else none) = if j = n then some a else (bif Nat.ble (j + 1) n then t.get (path j) else none)
  rw [Tr.get_set']
  by_cases e : j = n
  ·subst e; rw [if_pos rfl, if_pos rfl, ble_t (Nat.le_refl _)]; rfl
  ·rw [if_neg e, if_neg (fun h => e h.symm)]
   by_cases h : j + 1 ≤ n
   ·rw [ble_t h, ble_t (show j + 1 ≤ n + 1 by omega)]
   ·rw [ble_f h, ble_f (show ¬ j + 1 ≤ n + 1 by omega)]
 size_emp := rfl
 size_set v i a := by
  obtain ⟨n, t⟩ := v
  cases h : Nat.ble (i + 1) n <;> simp [TV.set, TV.size, h]
 size_push v a := by obtain ⟨n, t⟩ := v; rfl
 get_lt v i a h := by
  obtain ⟨n, t⟩ := v
  by_cases hb : i + 1 ≤ n
  ·exact hb
  ·simp only [TV.get, ble_f hb] at h; cases h
def Vec.ofList {V : Type → Type} [Vec V] {α : Type} (l : List α) : V α := l.foldl Vec.push Vec.emp
inductive AE | norm | exit (id : Nat) | goto (l : Nat) | ret
 deriving DecidableEq
inductive FOp
 | bin (op : BinOp) (t : TypeId) (x y : Operand)
 | un (op : UnOp)
 | conv (s d : TypeId)
 | idx (t : TypeId)
 | min (ts : Array TypeId) (t : TypeId)
 | max (ts : Array TypeId) (t : TypeId)
 | cplx (ts : Array TypeId) (t : TypeId)
 | re (ts : Array TypeId) (t : TypeId)
 | im (ts : Array TypeId) (t : TypeId)
 | xt (f : FuncId)
inductive AOp (χ : Type)
 | bad
 | mov (x : χ)
 | pick (c a b : χ)
 | bin (op : BinOp) (x y : χ)
 | eqn (kd : Nat) (neg : Bool) (x y : χ)
 | not (x : χ)
 | conv (k : IntKind) (x : χ)
 | beq (neg : Bool) (x y : χ)
 | flat (o : FOp) (xs : List χ)
 | sbin (op : BinOp) (x y : χ)
 | sidx (x i : χ)
 | slen (x : χ)
 | scut (x : χ) (lo hi : Option χ)
 | load (n : Option Nat) (a : χ)
 | store (n : Nat) (a x : χ)
 | alloc (cs : List Value)
 | box (x : χ)
 | build (cs : List Value) (parts : List (Nat × Nat × χ))
 | mkarr (n : Nat) (cs : List Value) (parts : List (Nat × Nat × χ))
 | mkslice (zero : List Value) (bytes : Nat) (l c : χ)
 | slice (size : Nat) (x : χ) (lo hi mx : Option χ)
 | slarr (len size : Nat) (x : χ) (lo hi mx : Option χ)
 | faddr (off : Nat) (x : χ)
 | fld (n : Option Nat) (off : Nat) (x : χ)
 | iaddr (size : Nat) (x i : χ)
 | iarr (len size : Nat) (x i : χ)
 | ext (x : χ) (i : Nat)
 | mkfn (fn : FuncId) (first captured : List χ)
 | nilchk (x : χ)
 | len (x : χ)
 | append (share : Bool) (size bytes : Nat) (s x : χ)
 | copy (size : Nat) (d s : χ)
 | call (f : χ) (args : List χ)
 | xt (g : FuncId) (args : List χ)
inductive Src
 | tmp (i : Nat)
 | loc (d : Nat)
 | const (v : Value)
 | func (f : FuncId)
structure AOper where
 op : AOp Src
 g : Option (Src × Bool)
 lo : Nat
inductive ACode
 | bad | skip | ret
 | seq (a b : ACode)
 | cond (c : Src) (a b : ACode)
 | block (id : Nat) (b : ACode)
 | loop (b : ACode)
 | exit (id : Nat)
 | scope (b : ACode)
 | label (l : Nat)
 | goto (l : Nat)
 | rangeFunc (g : Src) (ps : List (Option Nat)) (assign body : ACode)
 | region (ops : List AOper) (back : List (Nat × Src))
 | draw (ops : List AOper) (back : List (Nat × Src))
inductive ARes | tmp (i : Nat) | cell (i : Nat) (n : Option Nat)
structure AFunc where
 keep : List Nat
 res : List ARes
 body : ACode
inductive Blk
 | dead
 | arr (cs : List Value) (w : Bool) (lo : Nat)
 | loop (T : List Value) (ps : List (Option Nat)) (assign body : ACode) (st : LoopState) (pend : Option AE)
 | defr
abbrev AT := List Value
abbrev AH (V : Type → Type) := V Blk
def isAggT (P : Program) (t : TypeId) : Option (Option Nat) :=
 match P.underlying t, P.info? t with
 | some (.struct _), some i | some (.array _ _), some i => some (some i.size)
 | some _, some _ => some none
 | _, _ => none
def sizeT (P : Program) (t : TypeId) : Nat := ((P.info? t).map (·.size)).getD 0
def bytesT (P : Program) (t : TypeId) : Nat := ((P.info? t).map (·.bytes)).getD 0
def zeroT (P : Program) (t : TypeId) : Option (List Value) := ((P.info? t).bind (·.zero)).map (·.cells.toList)
def zeroOk (P : Program) (e : TypeId) : Bool := match zeroT P e with | some cs => cs.length == sizeT P e | none => false
def xtOk (P : Program) (f : FuncId) : Bool := match P.funcs[f]? with
 | some fn => fn.body.isNone && (!(fn.name == "runtime.NumGoroutine") && ((Extern.findNext fn).isNone && ((Extern.find fn).isSome && (fn.name == "math.Float64bits" || fn.name == "math.Float64frombits"))))
 | none => false
def callOp (P : Program) (f : Operand) (args : List Operand) : AOp Operand := match f with
 | .func g => if xtOk P g = true then .xt g args else .call (.func g) args
 | f => .call f args
def compileOp (P : Program) (share : Bool) (o : Oper) : AOp Operand :=
 match o.op with
 | .move x | .assign x => .mov x
 | .pick c a b => .pick c a b
 | .binOp op t x y _ =>
   match P.underlying t with
   | some (.int _) => .bin op x y
   | some .string => .sbin op x y
   | some .bool => (match op with | .eql => .beq false x y | .neq => .beq true x y | _ => .bad)
   | some (.slice _) => (match op with | .eql => .eqn 0 false x y | .neq => .eqn 0 true x y | _ => .bad)
   | some (.pointer _) => (match op with | .eql => .eqn 1 false x y | .neq => .eqn 1 true x y | _ => .bad)
   | some (.func _ _ _) => (match op with | .eql => .eqn 2 false x y | .neq => .eqn 2 true x y | _ => .bad)
   | some _ => .flat (.bin op t x y) [x, y]
   | none => .bad
 | .unOp op _ x => match op with | .not => .not x | _ => .flat (.un op) [x]
 | .convert s d x =>
   match P.underlying s, P.underlying d with
   | some (.int _), some (.int k) => .conv k x
   | some (.slice _), _ | _, some (.slice _) | none, _ | _, none => .bad
   | _, _ => .flat (.conv s d) [x]
 | .index t x i => match P.underlying t with | some .string => .sidx x i | some _ => .flat (.idx t) [x, i] | none => .bad
 | .load t a => match isAggT P t with | some n => .load n a | none => .bad
 | .store t a x => match P.info? t with | some i => .store i.size a x | none => .bad
 | .alloc t => match zeroT P t with | some cs => if cs.all flat1 then .alloc cs else .bad | none => .bad
 | .box _ x => .box x
 | .build t ps =>
   match P.underlying t, zeroT P t with
   | some (.struct fs), some cs =>
     if cs.all flat1 && fs.toList.all (fun f => (P.info? f.type).isSome) && ps.toList.all (fun p => decide (p.1 < fs.size)) then
      .build cs (ps.toList.map fun p => ((fs[p.1]?.map (·.offset)).getD 0, sizeT P ((fs[p.1]?.map (·.type)).getD 0), p.2)) else .bad
   | some (.array _ e), some cs => if cs.all flat1 && (P.info? e).isSome then .build cs (ps.toList.map fun p => (p.1 * sizeT P e, sizeT P e, p.2)) else .bad
   | _, _ => .bad
 | .buildSlice t n ps =>
   match P.underlying t with
   | some (.slice e) =>
     match P.info? e, zeroT P e with
     | some i, some cs => if cs.all flat1 && decide (n * i.size ≤ 2 ^ 24) && decide (cs.length = i.size) && decide (0 < i.size) then .mkarr n (List.replicate n cs).flatten (ps.toList.map fun p => (p.1 * i.size, i.size, p.2)) else .bad
     | _, _ => .bad
   | _ => .bad
 | .makeSlice t l c =>
   match P.underlying t with
   | some (.slice e) =>
     match P.info? e, zeroT P e with
     | some i, some cs => if cs.all flat1 && decide (cs.length = i.size) && decide (0 < i.size) then .mkslice cs i.bytes l c else .bad
     | _, _ => .bad
   | _ => .bad
 | .slice t x lo hi mx =>
   match P.underlying t with
   | some (.slice e) => if (P.info? e).isSome && decide (0 < sizeT P e) then .slice (sizeT P e) x lo hi mx else .bad
   | some (.array n e) => if (P.info? e).isSome then .slarr n (sizeT P e) x lo hi mx else .bad
   | some .string => if mx.isSome then .bad else .scut x lo hi
   | _ => .bad
 | .fieldAddr s x f =>
   match P.underlying s with
   | some (.struct fs) => match fs[f]? with | some fd => if sizeT P fd.type = 0 then .bad else .faddr fd.offset x | none => .bad
   | _ => .bad
 | .field s x f =>
   match P.underlying s with
   | some (.struct fs) => match fs[f]? with | some fd => (match isAggT P fd.type with | some n => .fld n fd.offset x | none => .bad) | none => .bad
   | _ => .bad
 | .indexAddr t x i =>
   match P.underlying t with
   | some (.slice e) => if (P.info? e).isSome then .iaddr (sizeT P e) x i else .bad
   | some (.array n e) => if (P.info? e).isSome then .iarr n (sizeT P e) x i else .bad
   | _ => .bad
 | .extract x i => .ext x i
 | .makeFunc fn first captured => match fn with | .func f => .mkfn f first.toList captured.toList | _ => .bad
 | .nilCheck x => .nilchk x
 | .call c =>
   match c.callee with
   | .value f => callOp P f c.args.toList
   | .builtin b =>
     match b, c.args.toList, c.argTypes.toList with
     | .len, [x], [t] => match P.underlying t with | some (.slice _) => .len x | some .string => .slen x | _ => .bad
     | .min, xs, _ => .flat (.min c.argTypes o.type) xs
     | .max, xs, _ => .flat (.max c.argTypes o.type) xs
     | .complex, xs, _ => .flat (.cplx c.argTypes o.type) xs
     | .real, xs, _ => .flat (.re c.argTypes o.type) xs
     | .imag, xs, _ => .flat (.im c.argTypes o.type) xs
     | .append, [s, x], [t, tx] =>
       match P.underlying t, P.underlying tx with
       | some (.slice e), some (.slice _) | some (.slice e), some .string =>
         if zeroOk P e && decide (0 < sizeT P e) && decide (0 < bytesT P e) then .append share (sizeT P e) (bytesT P e) s x else .bad
       | _, _ => .bad
     | .copy, [d, s], [t, _] =>
       match P.underlying t with
       | some (.slice e) => if (P.info? e).isSome && decide (0 < sizeT P e) then .copy (sizeT P e) d s else .bad
       | _ => .bad
     | _, _, _ => .bad
   | _ => .bad
 | _ => .bad
def isEff {χ : Type} : AOp χ → Bool
 | .store .. | .append .. | .copy .. | .call .. | .xt .. | .bad => true
 | _ => false
def mapOpt {α β : Type} (f : α → Option β) : List α → Option (List β)
 | [] => some []
 | x :: r => match f x with
   | some y => (match mapOpt f r with | some ys => some (y :: ys) | none => none)
   | none => none
def mapO {α β : Type} (f : α → Option β) : Option α → Option (Option β)
 | none => some none
 | some x => match f x with | some y => some (some y) | none => none
def m1 {α β γ : Type} (f : α → Option β) (k : β → γ) (x : α) : Option γ := match f x with | some y => some (k y) | none => none
def m2 {α β γ : Type} (f : α → Option β) (k : β → β → γ) (x y : α) : Option γ := match f x, f y with | some a, some b => some (k a b) | _, _ => none
def m3 {α β γ : Type} (f : α → Option β) (k : β → β → β → γ) (x y z : α) : Option γ := match f x, f y, f z with | some a, some b, some c => some (k a b c) | _, _, _ => none
def mParts {α β : Type} (f : α → Option β) (p : Nat × Nat × α) : Option (Nat × Nat × β) := match f p.2.2 with | some y => some (p.1, p.2.1, y) | none => none
def AOp.mapM {α β : Type} (f : α → Option β) : AOp α → Option (AOp β)
 | .bad => some .bad
 | .mov x => m1 f .mov x
 | .pick c a b => m3 f .pick c a b
 | .bin op x y => m2 f (.bin op) x y
 | .eqn kd neg x y => m2 f (.eqn kd neg) x y
 | .not x => m1 f .not x
 | .conv k x => m1 f (.conv k) x
 | .beq neg x y => m2 f (.beq neg) x y
 | .flat o xs => match mapOpt f xs with | some ys => some (.flat o ys) | none => none
 | .sbin op x y => m2 f (.sbin op) x y
 | .sidx x i => m2 f .sidx x i
 | .slen x => m1 f .slen x
 | .scut x lo hi => match f x, mapO f lo, mapO f hi with | some x, some lo, some hi => some (.scut x lo hi) | _, _, _ => none
 | .load n a => m1 f (.load n) a
 | .store n a x => m2 f (.store n) a x
 | .alloc cs => some (.alloc cs)
 | .box x => m1 f .box x
 | .build cs ps => match mapOpt (mParts f) ps with | some l => some (.build cs l) | none => none
 | .mkarr n cs ps => match mapOpt (mParts f) ps with | some l => some (.mkarr n cs l) | none => none
 | .mkslice z b l c => m2 f (.mkslice z b) l c
 | .slice size x lo hi mx => match f x, mapO f lo, mapO f hi, mapO f mx with | some x, some lo, some hi, some mx => some (.slice size x lo hi mx) | _, _, _, _ => none
 | .slarr ln size x lo hi mx => match f x, mapO f lo, mapO f hi, mapO f mx with | some x, some lo, some hi, some mx => some (.slarr ln size x lo hi mx) | _, _, _, _ => none
 | .faddr off x => m1 f (.faddr off) x
 | .fld n off x => m1 f (.fld n off) x
 | .iaddr size x i => m2 f (.iaddr size) x i
 | .iarr ln size x i => m2 f (.iarr ln size) x i
 | .ext x i => m1 f (fun y => .ext y i) x
 | .mkfn fn a c => match mapOpt f a, mapOpt f c with | some a, some c => some (.mkfn fn a c) | _, _ => none
 | .nilchk x => m1 f .nilchk x
 | .len x => m1 f .len x
 | .append sh size bytes s x => m2 f (.append sh size bytes) s x
 | .copy size d s => m2 f (.copy size) d s
 | .call g args => match f g, mapOpt f args with | some g, some args => some (.call g args) | _, _ => none
 | .xt g args => match mapOpt f args with | some ys => some (.xt g ys) | none => none
inductive Org
 | tmp (i : Nat)
 | val (k : Nat)
 | const (v : Value)
 | func (f : FuncId)
abbrev OEnv := List (Nat × Org)
def OEnv.find (m : OEnv) (t : Nat) : Option Org := (m.find? fun p => p.1 == t).map (·.2)
def orgOf (m : OEnv) : Operand → Option Org
 | .tmp t => m.find t
 | .const v => if flat v then some (.const v) else none
 | .global _ => none
 | .func f => some (.func f)
def Org.src (n : Nat) : Org → Src
 | .tmp i => .tmp i
 | .val k => .loc (n - 1 - k)
 | .const v => .const v
 | .func f => .func f
def srcOf (m : OEnv) (n : Nat) (x : Operand) : Option Src := (orgOf m x).map (Org.src n)
def guardOf (ops : Array Oper) (o : Oper) : Option (Option Nat × Bool) :=
 o.guard.map fun (j, want) => ((ops[j]?).bind (·.dst), want)
def setOrg (m : OEnv) (d : Option Nat) (x : Org) : OEnv := match d with | some d => (d, x) :: m | none => m
def orgIn (ops : Array Oper) (o : Oper) (m : OEnv) (x : Operand) : Option Org :=
 match x with
 | .tmp t => if (o.looksAt ops).contains t then orgOf m x else none
 | x => orgOf m x
def srcIn (ops : Array Oper) (o : Oper) (m : OEnv) (n : Nat) (x : Operand) : Option Src := (orgIn ops o m x).map (Org.src n)
def oneOp (P : Program) (share : Bool) (ops : Array Oper) (lo : Nat) (m : OEnv) (n : Nat) (o : Oper) : Option (Option AOper × Org) :=
 match o.guard, compileOp P share o with
 | none, .mov x => (orgIn ops o m x).map fun y => (none, y)
 | _, op =>
   match op.mapM (srcIn ops o m n), guardOf ops o with
   | some op', none => some (some ⟨op', none, lo⟩, .val n)
   | some op', some (some d, want) => (srcIn ops o m n (.tmp d)).map fun s => (some ⟨op', some (s, want), lo⟩, .val n)
   | _, _ => none
def someOps (P : Program) (share : Bool) (ops : Array Oper) : List (Oper × Nat) → OEnv → Nat → Option (List AOper × OEnv × Nat)
 | [], m, n => some ([], m, n)
 | (o, lo) :: r, m, n =>
   match oneOp P share ops lo m n o with
   | some (none, x) => someOps P share ops r (setOrg m o.dst x) n
   | some (some a, x) => (match someOps P share ops r (setOrg m o.dst x) (n + 1) with | some (l, m', n') => some (a :: l, m', n') | none => none)
   | none => none
def backOf (keep : List Nat) (m : OEnv) (n : Nat) : List (Nat × Src) :=
 keep.zipIdx.filterMap fun (t, i) => match m.find t with
  | some (.tmp j) => if i == j then none else some (i, .tmp j)
  | some x => some (i, x.src n)
  | none => none
def entry (keep : List Nat) : OEnv := keep.zipIdx.map fun (t, i) => (t, .tmp i)
def aheadOf (ops : List Oper) : List (List Nat) :=
 ops.foldl (init := []) fun acc o => acc ++ [(o.after.toList.flatMap fun e => if Region.binds .any e then e.on :: acc.getD e.on [] else []).eraseDups]
def orderOf (ah : List (List Nat)) (effs : List Nat) (n : Nat) : List Nat :=
 let l := effs.foldl (init := []) fun acc e => acc ++ ((List.range n).filter fun i => !acc.contains i && (i == e || (ah.getD e []).contains i))
 l ++ (List.range n).filter fun i => !l.contains i
def drawOk (ops : List Oper) (ah : List (List Nat)) (effs l : List Nat) : Bool :=
 (l.length == ops.length) && (l.all fun i => Nat.blt i ops.length) && (List.range ops.length).all (fun i => l.contains i) &&
 (l.zipIdx.all fun (j, k) => ((ah.getD j []).all fun i => (l.take k).contains i) &&
  !(l.take k).contains j && (l.take k).all fun i => (ah.getD j []).contains i || (match ops[i]?, ops[j]? with
    | some oi, some oj => oi.apart ops.toArray oj && !effs.contains j
    | _, _ => false))
def compileRegion (P : Program) (share : Bool) (keep : List Nat) (ops : Array Oper) (draw : Bool) : ACode :=
 let l := ops.toList
 if draw then
  let ah := aheadOf l
  let effs := (List.range l.length).filter fun i => match l[i]? with | some o => isEff (compileOp P share o) | none => false
  let ord := orderOf ah effs l.length
  if drawOk l ah effs ord then
   match someOps P share ops (ord.filterMap fun i => l[i]?.map fun o => (o, (ord.filter fun e => effs.contains e && (ah.getD i []).contains e).length)) (entry keep) 0 with
   | some (l, m, n) => .draw l (backOf keep m n)
   | none => .bad
  else .bad
 else
  match someOps P share ops (l.map fun o => (o, 0)) (entry keep) 0 with
  | some (l, m, n) => .region l (backOf keep m n)
  | none => .bad
def keptSrc (keep : List Nat) (x : Operand) : Option Src := srcOf (entry keep) 0 x
def compile (P : Program) (share : Bool) (keep : List Nat) : Code → ACode
 | .skip => .skip
 | .region _ ops draw => compileRegion P share keep ops draw
 | .seq a b => .seq (compile P share keep a) (compile P share keep b)
 | .cond c a b => match keptSrc keep c with | some c => .cond c (compile P share keep a) (compile P share keep b) | none => .bad
 | .block id b => .block id (compile P share keep b)
 | .loop b => .loop (compile P share keep b)
 | .rangeFunc g ps a b => match keptSrc keep g with | some g => .rangeFunc g (ps.toList.map fun t => keep.idxOf? t) (compile P share keep a) (compile P share keep b) | none => .bad
 | .exit id => .exit id
 | .scope b => .scope (compile P share keep b)
 | .label l => .label l
 | .goto l => .goto l
 | .ret => .ret
 | .refuse _ => .bad
def looks (ops : Array Oper) (o : Oper) : List Nat :=
 (o.op.operands.toList.filterMap fun | .tmp t => some t | _ => none) ++ ((guardOf ops o).bind (·.1)).toList
def regionNames (ops : Array Oper) : List Nat × List Nat :=   -- told here (some), looked at ahead of that
 ops.toList.foldl (init := ([], [])) fun (told, open_) o =>
  let op := (looks ops o).filter fun t => !told.contains t
  (o.dst.toList ++ told, op ++ open_)
def codeNames : Code → List (List Nat) × List Nat   -- of each region all its names; names that must be kept
 | .region _ ops _ => let (told, op) := regionNames ops; ([(told ++ op).eraseDups], op)
 | .seq a b => let x := codeNames a; let y := codeNames b; (x.1 ++ y.1, x.2 ++ y.2)
 | .rangeFunc g ps a b => let x := codeNames a; let y := codeNames b; (x.1 ++ y.1, (match g with | .tmp t => [t] | _ => []) ++ ps.toList ++ x.2 ++ y.2)
 | .cond c a b => let x := codeNames a; let y := codeNames b; (x.1 ++ y.1, (match c with | .tmp t => [t] | _ => []) ++ x.2 ++ y.2)
 | .block _ b | .loop b | .scope b => codeNames b
 | _ => ([], [])
def keepOf (fn : Func) (c : Code) : List Nat :=
 let (rs, k) := codeNames c
 let k := (k ++ (fn.results.toList.map fun | ResultVar.tmp t => t | ResultVar.cell t _ => t)).eraseDups
 let twice := rs.foldl (init := (([] : List Nat), ([] : List Nat))) fun (seen, tw) l => (l ++ seen, (l.filter seen.contains) ++ tw)
 let all := (k ++ twice.2).eraseDups
 (List.range fn.ntmps).filter fun t => all.contains t
def compileRes (P : Program) (keep : List Nat) : ResultVar → Option ARes
 | .tmp t => (keep.idxOf? t).map .tmp
 | .cell a t => match keep.idxOf? a, isAggT P t with | some i, some n => some (.cell i n) | _, _ => none
def cOk (n : Nat) : Code → Bool
 | .region _ ops _ => ops.toList.all fun o => match o.dst with | some d => Nat.blt d n | none => true
 | .seq a b => cOk n a && cOk n b
 | .cond _ a b => cOk n a && cOk n b
 | .block _ b => cOk n b
 | .loop b => cOk n b
 | .scope b => cOk n b
 | .rangeFunc _ ps a b => ps.toList.all (fun d => Nat.blt d n) && (cOk n a && cOk n b)
 | _ => true
def compileFn (P : Program) (share : Bool) (f : FuncId) : Option AFunc :=
 match P.funcs[f]? with
 | some fn =>
   match fn.body with
   | some c =>
     match mapOpt (compileRes P (keepOf fn c)) fn.results.toList with
     | some rs => if fn.name == "runtime.NumGoroutine" || !cOk fn.ntmps c then none else some ⟨keepOf fn c, rs, compile P share (keepOf fn c) c⟩
     | none => none
   | none => none
 | none => none
section
variable {V : Type → Type} [Vec V]
def sev (T L : List Value) : Src → Option Value
 | .tmp i => T[i]?
 | .loc d => L[d]?
 | .const v => some v
 | .func f => some (.func (.func f) #[] #[])
def awanted (T L : List Value) : Option (Src × Bool) → Bool
 | none => true
 | some (s, want) => match sev T L s with
   | some (.bool b) => b == want
   | _ => false
def pureRun {α : Type} (P : Program) : Sem α → Option α
 | .pure a => some a
 | .program k => pureRun P (k P)
 | .mark _ k => pureRun P k
 | _ => none
def flatSem (o : FOp) (vs : List Value) : Sem Value :=
 match o, vs with
 | .bin op t x y, [a, b] => do eqGuard op t x y a b; binOp op t a b
 | .un op, [a] => Op.unary op a
 | .conv s d, [a] => convert s d a
 | .idx t, [x, i] => Instr.index t x i
 | .min ts t, vs => Builtin.min_ ts t vs.toArray
 | .max ts t, vs => Builtin.max_ ts t vs.toArray
 | .cplx ts t, vs => Builtin.complex_ ts t vs.toArray
 | .re ts t, vs => Builtin.real_ ts t vs.toArray
 | .im ts t, vs => Builtin.imag_ ts t vs.toArray
 | .xt f, vs => do
   match (← program).funcs[f]? with
   | some fn => (match Extern.find fn with
     | some e => e vs.toArray
     | none => stuck "")
   | none => stuck ""
 | _, _ => stuck ""
def aflat (P : Program) (o : FOp) (vs : List Value) : Option Value :=
 if vs.all flat then
  match pureRun P (flatSem o vs) with
  | some v => if flat v then some v else none
  | none => none
 else none
def aw (k : IntKind) (n : Int) : Int :=
 match k with
 | .i64 => (n + 9223372036854775808) % 18446744073709551616 - 9223372036854775808
 | .u64 => n % 18446744073709551616
 | .u8 => n % 256
 | k => k.wrap n
def abits (op : BinOp) (k : IntKind) (a b : Int) : Int :=
 match op with
 | .and => aw k (BitVec.ofInt k.bits a &&& BitVec.ofInt k.bits b).toNat
 | .or => aw k (BitVec.ofInt k.bits a ||| BitVec.ofInt k.bits b).toNat
 | .xor => aw k (BitVec.ofInt k.bits a ^^^ BitVec.ofInt k.bits b).toNat
 | _ => aw k (BitVec.ofInt k.bits a &&& ~~~ BitVec.ofInt k.bits b).toNat
def someInt (k : IntKind) (n : Int) : Option Value := some (.int k n)
def someBool (b : Bool) : Option Value := some (.bool b)
def ashl (k : IntKind) (a b : Int) : Option Value := if b < 0 then none else someInt k (aw k (a * 2 ^ (min b.toNat k.bits)))
def ashr (k : IntKind) (a b : Int) : Option Value := if b < 0 then none else someInt k (a.fdiv (2 ^ (min b.toNat k.bits)))
def aquo (k : IntKind) (a b : Int) : Option Value := if b = 0 then none else someInt k (aw k (a.tdiv b))
def arem (k : IntKind) (a b : Int) : Option Value := if b = 0 then none else someInt k (a.tmod b)
def abinI (op : BinOp) (k : IntKind) (a b : Int) : Option Value :=
 match op with
 | .add => someInt k (aw k (a + b))
 | .sub => someInt k (aw k (a - b))
 | .mul => someInt k (aw k (a * b))
 | .quo => aquo k a b
 | .rem => arem k a b
 | .eql => someBool (a == b)
 | .neq => someBool (a != b)
 | .lss => someBool (a < b)
 | .leq => someBool (a ≤ b)
 | .gtr => someBool (a > b)
 | .geq => someBool (a ≥ b)
 | .shl => none
 | .shr => none
 | .and => someInt k (abits .and k a b)
 | .or => someInt k (abits .or k a b)
 | .xor => someInt k (abits .xor k a b)
 | .andNot => someInt k (abits .andNot k a b)
def abinK (op : BinOp) (k k' : IntKind) (a b : Int) : Option Value :=
 match op with
 | .shl => ashl k a b
 | .shr => ashr k a b
 | op => if k = k' then abinI op k a b else none
def abin (op : BinOp) (x y : Value) : Option Value :=
 match x, y with
 | .int k a, .int k' b => abinK op k k' a b
 | _, _ => none
def aeqn (kd : Nat) (a b : Value) : Option Bool :=
 match kd, a, b with
 | 0, .slice none _ _, .slice b _ _ => some b.isNone
 | 0, .slice _ _ _, .slice none _ _ => some false
 | 1, .pointer none, .pointer b => some b.isNone
 | 1, .pointer _, .pointer none => some false
 | 2, .nilFunc, .nilFunc => some true
 | 2, .nilFunc, .func _ _ _ => some false
 | 2, .func _ _ _, .nilFunc => some false
 | _, _, _ => none
def veq1 : Value → Value → Bool
 | .bool a, .bool b => a == b
 | .int k a, .int l b => k == l && a == b
 | .string a, .string b => a == b
 | .pointer a, .pointer b => a == b
 | .slice a n c, .slice b m d => a == b && n == m && c == d
 | .nilFunc, .nilFunc => true
 | .nilIface, .nilIface => true
 | .func f a c, .func g b d => f == g && a.toList.isEmpty && b.toList.isEmpty && c.toList.isEmpty && d.toList.isEmpty
 | _, _ => false
def veqs : List Value → List Value → Bool
 | [], [] => true
 | a :: r, b :: s => veq1 a b && veqs r s
 | _, _ => false
def veq : Value → Value → Bool
 | .agg a, .agg b => veqs a.toList b.toList
 | .func f a c, .func g b d => f == g && veqs a.toList b.toList && veqs c.toList d.toList
 | a, b => veq1 a b
def acells (cs : List Value) (n : Option Nat) (off : Nat) : Option Value :=
 match n with
 | none => cs[off]?
 | some n => if off + n ≤ cs.length then some (.agg ((cs.drop off).take n).toArray) else none
def arow (H : AH V) (b : Nat) : Option (List Value) :=
 match Vec.get H b with
 | some (.arr cs _ _) => some cs
 | _ => none
def aload (H : AH V) (n : Option Nat) (v : Value) : Option Value :=
 match v with
 | .pointer (some ⟨b, off, none⟩) => match arow H b with
   | some cs => acells cs n off
   | none => none
 | _ => none
def splice : List Value → Nat → List Value → List Value
 | cs, _, [] => cs
 | cs, off, v :: r => splice (cs.set off v) (off + 1) r
def aput' (H : AH V) (b off : Nat) (vs : List Value) : Option (AH V) :=
 match Vec.get H b with
 | some (.arr cs true lo) =>
   if lo ≤ off ∧ off + vs.length ≤ cs.length ∧ vs.all oneCell = true then some (Vec.set H b (.arr (splice cs off vs) true lo)) else none
 | _ => none
def astore (H : AH V) (n : Nat) (p v : Value) : Option (AH V) :=
 match p with
 | .pointer (some ⟨b, off, none⟩) => if v.cells.toList.length = n then aput' H b off v.cells.toList else none
 | _ => none
def anew (H : AH V) (cs : List Value) : AH V := Vec.push H (.arr cs true 0)
def afill (cs : List Value) : List (Nat × Nat × Value) → Option (List Value)
 | [] => some cs
 | (off, size, v) :: r =>
   if v.cells.toList.length = size ∧ off + size ≤ cs.length then afill (splice cs off v.cells.toList) r else none
def abound (v : Value) (m : Nat) : Option Nat :=
 match v with
 | .int _ i => if 0 ≤ i ∧ i ≤ m then some i.toNat else none
 | _ => none
def aoptb (v : Option Value) (d m : Nat) : Option Nat :=
 match v with
 | some v => abound v m
 | none => some d
def acut (size : Nat) (a : Addr) (m h l e : Nat) : Option Value :=
 if m = l then (if e = 1 then some (.slice (some a) (h - l) 1) else if h = l then some (.slice (some a) 0 0) else none)
 else some (.slice (some (a.add (l * size))) (h - l) (2 * (m - l) + e))
def asliceS (size : Nat) (a : Option Addr) (n ce : Nat) (lo hi mx : Option Value) : Option Value :=
 if (mx.isSome && hi.isNone) || decide (ce / 2 < n) then none else
 match aoptb mx (ce / 2) (ce / 2) with
 | none => none
 | some m =>
   match aoptb hi n m with
   | none => none
   | some h =>
     match aoptb lo 0 h with
     | none => none
     | some l =>
       match a with
       | none => if n = 0 ∧ ce = 0 then some (.slice none 0 0) else none
       | some a => acut size a m h l (if mx.isSome then 1 else ce % 2)
def asliceV (size : Nat) (v : Value) (lo hi mx : Option Value) : Option Value :=
 match v with
 | .slice a n ce => asliceS size a n ce lo hi mx
 | .iface t (.slice (some ⟨b, o, none⟩) n ce) => if (size = 1 ∧ hi.isNone = true) ∧ mx.isNone = true then (match aoptb lo 0 n with | some l => some (.iface t (.slice (some ⟨b, o + l, none⟩) (n - l) ce)) | none => none) else none
 | _ => none
def aslarr (len size : Nat) (v : Value) (lo hi mx : Option Value) : Option Value :=
 match v with
 | .pointer (some a) =>
   if (mx.isSome && hi.isNone) then none else
   match aoptb mx len len with
   | none => none
   | some m =>
     match aoptb hi len m with
     | none => none
     | some h =>
       match aoptb lo 0 h with
       | none => none
       | some l => some (.slice (some (if m = l then a else a.add (l * size))) (h - l) (2 * (m - l) + 1))
 | _ => none
def aindex (size : Nat) (x i : Value) : Option Value :=
 match x, i with
 | .slice (some a) n _, .int _ i => if 0 ≤ i ∧ i < n then some (.pointer (some (a.add (i.toNat * size)))) else none
 | .iface _ (.slice (some ⟨b, o, none⟩) n _), .int _ i => if (0 ≤ i ∧ i < n) ∧ size = 1 then some (.pointer (some ⟨b, o + i.toNat, none⟩)) else none
 | _, _ => none
def aindexA (len size : Nat) (x i : Value) : Option Value :=
 match x, i with
 | .pointer (some a), .int _ i => if 0 ≤ i ∧ i < len then some (.pointer (some (a.add (i.toNat * size)))) else none
 | _, _ => none
def asrc (H : AH V) (size n : Nat) (x : Value) : Option (List Value) :=
 match x with
 | .slice (some ⟨b, off, none⟩) _ _ => match arow H b with
   | some cs => if off + n * size ≤ cs.length then some ((cs.drop off).take (n * size)) else none
   | none => none
 | .slice (some ⟨_, _, some _⟩) _ _ => if n = 0 then some [] else none
 | .slice none _ _ => if n = 0 then some [] else none
 | .string s => if size = 1 then some ((s.data.toList.take n).map fun b => .int .u8 b.toNat) else none
 | _ => none
def alen (x : Value) : Option Nat :=
 match x with
 | .slice _ n _ => some n
 | .string s => some s.size
 | _ => none
def room : Nat := 140737488355328
def aappend (share : Bool) (size bytes : Nat) (H : AH V) (s x : Value) : Option (Value × AH V) :=
 match s, alen x with
 | .slice base n ce, some k =>
   match asrc H size k x with
   | none => none
   | some new =>
     if new.all oneCell = false ∨ room < (n + k) * bytes then none else
     match base with
     | none => if n = 0 ∧ ce = 0 then (if k = 0 then some (.slice none 0 0, H) else some (.slice (some ⟨Vec.size H, 0, none⟩) k (2 * k), anew H new)) else none
     | some ⟨b, off, none⟩ =>
       if n + k ≤ ce / 2 then
        match aput' H b (off + n * size) new with
        | some H' => some (.slice (some ⟨b, off, none⟩) (n + k) ce, H')
        | none => none
       else if k = 0 then none else
       match Vec.get H b with
       | some (.arr cs w lo) =>
         if off + n * size ≤ cs.length then
          let old := (cs.drop off).take (n * size)
          if ce % 2 = 1 then some (.slice (some ⟨Vec.size H, 0, none⟩) (n + k) (2 * (n + k)), anew H (old ++ new))
          else if ce = 0 ∨ w = false ∨ off ≠ 0 ∨ n ≠ ce / 2 ∨ n * size ≠ cs.length then none
          else if share = true ∧ lo ≤ cs.length then
           some (.slice (some ⟨Vec.size H, 0, none⟩) (n + k) (2 * (n + k)), Vec.push (Vec.set H b (.arr cs false 0)) (.arr (old ++ new) true (n * size)))
          else if lo = 0 then some (.slice (some ⟨Vec.size H, 0, none⟩) (n + k) (2 * (n + k)), anew (Vec.set H b .dead) (old ++ new))
          else none
         else none
       | _ => none
     | _ => none
 | _, _ => none
def acopy (size : Nat) (H : AH V) (d s : Value) : Option (Value × AH V) :=
 match d, alen s with
 | .slice base n _, some k =>
   match asrc H size (min k n) s with
   | none => none
   | some cells =>
     match base with
     | none => some (.int .i64 ((min k n : Nat) : Int), H)
     | some ⟨b, off, none⟩ =>
       if min k n = 0 then some (.int .i64 0, H) else
       match aput' H b off cells with
       | some H' => some (.int .i64 ((min k n : Nat) : Int), H')
       | none => none
     | _ => none
 | _, _ => none
def amkslice (zero : List Value) (bytes : Nat) (H : AH V) (l c : Value) : Option (Value × AH V) :=
 match l, c with
 | .int _ l, .int _ c =>
   if 0 ≤ l ∧ l ≤ c ∧ c * bytes ≤ 281474976710656 ∧ c ≤ 9223372036854775807 then
    some (.slice (some ⟨Vec.size H, 0, none⟩) l.toNat (2 * c.toNat + 1), anew H (List.replicate c.toNat zero).flatten)
   else none
 | _, _ => none
def bytesOf (s : ByteArray) : List UInt8 := s.data.toList
def strOf (l : List UInt8) : Value := .string ⟨l.toArray⟩
def lessB : List UInt8 → List UInt8 → Bool
 | _, [] => false
 | [], _ :: _ => true
 | a :: x, b :: y => a < b || (a == b && lessB x y)
def sbinS (op : BinOp) (x y : ByteArray) : Option Value :=
 match op with
 | .add => if ((x.size + y.size : Nat) : Int) > 9223372036854775807 then none else some (strOf (bytesOf x ++ bytesOf y))
 | .eql => some (.bool (bytesOf x == bytesOf y))
 | .neq => some (.bool (!(bytesOf x == bytesOf y)))
 | .lss => some (.bool (lessB (bytesOf x) (bytesOf y)))
 | .leq => some (.bool (lessB (bytesOf x) (bytesOf y) || bytesOf x == bytesOf y))
 | .gtr => some (.bool (!(lessB (bytesOf x) (bytesOf y) || bytesOf x == bytesOf y)))
 | .geq => some (.bool (!lessB (bytesOf x) (bytesOf y)))
 | _ => none
def fSbin (op : BinOp) (a b : Value) : Option Value := match a, b with | .string x, .string y => sbinS op x y | _, _ => none
def fSidx (a i : Value) : Option Value :=
 match a, i with
 | .string s, .int _ i => if 0 ≤ i then (match (bytesOf s)[i.toNat]? with | some b => some (.int .u8 b.toNat) | none => none) else none
 | _, _ => none
def fSlen (a : Value) : Option Value := match a with | .string s => some (.int .i64 (bytesOf s).length) | _ => none
def fScut (a : Value) (lo hi : Option Value) : Option Value :=
 match a with
 | .string s =>
   match aoptb hi (bytesOf s).length (bytesOf s).length with
   | none => none
   | some h => (match aoptb lo 0 h with
     | none => none
     | some l => some (strOf (((bytesOf s).drop l).take (h - l))))
 | _ => none
def withH (H : AH V) : Option Value → Option (Value × AH V)
 | some v => some (v, H)
 | none => none
section
variable {χ : Type}
def evs (ev : χ → Option Value) : List χ → Option (List Value)
 | [] => some []
 | x :: r => match ev x with
   | some v => (match evs ev r with | some vs => some (v :: vs) | none => none)
   | none => none
def xPick (ev : χ → Option Value) (c a b : χ) : Option Value :=
 match ev c with
 | some (.bool t) => ev (bif t then a else b)
 | _ => none
def x2 {α : Type} (f : Value → Value → Option α) (ev : χ → Option Value) (x y : χ) : Option α :=
 match ev x with
 | some a => (match ev y with | some b => f a b | none => none)
 | none => none
def x1 {α : Type} (f : Value → Option α) (ev : χ → Option Value) (x : χ) : Option α :=
 match ev x with
 | some a => f a
 | none => none
def xs {α : Type} (f : List Value → Option α) (ev : χ → Option Value) (x : List χ) : Option α :=
 match evs ev x with
 | some a => f a
 | none => none
def xo (ev : χ → Option Value) : Option χ → Option (Option Value)
 | none => some none
 | some x => match ev x with | some v => some (some v) | none => none
def fEqn (kd : Nat) (neg : Bool) (a b : Value) : Option Value := match aeqn kd a b with | some t => some (.bool (t != neg)) | none => none
def fNot (a : Value) : Option Value := match a with | .bool b => some (.bool (!b)) | _ => none
def fConv (k : IntKind) (a : Value) : Option Value := match a with | .int _ n => some (.int k (aw k n)) | _ => none
def fBeq (neg : Bool) (a b : Value) : Option Value := match a, b with | .bool a, .bool b => some (.bool ((a == b) != neg)) | _, _ => none
def fStore (n : Nat) (H : AH V) (p v : Value) : Option (Value × AH V) := match astore H n p v with | some H' => some (undef, H') | none => none
def newPtr (H : AH V) (cs : List Value) : Option (Value × AH V) := some (.pointer (some ⟨Vec.size H, 0, none⟩), anew H cs)
def fBox (H : AH V) (v : Value) : Option (Value × AH V) := if v.cells.toList.all oneCell then newPtr H v.cells.toList else none
def xParts (ev : χ → Option Value) : List (Nat × Nat × χ) → Option (List (Nat × Nat × Value))
 | [] => some []
 | (o, s, x) :: r => match ev x with
   | some v => (match xParts ev r with | some vs => some ((o, s, v) :: vs) | none => none)
   | none => none
def xBuild (ev : χ → Option Value) (cs : List Value) (ps : List (Nat × Nat × χ)) : Option Value :=
 match xParts ev ps with
 | some l => (match afill cs l with | some c => some (.agg c.toArray) | none => none)
 | none => none
def xMkarr (ev : χ → Option Value) (H : AH V) (n : Nat) (cs : List Value) (ps : List (Nat × Nat × χ)) : Option (Value × AH V) :=
 match xParts ev ps with
 | some l => (match afill cs l with | some c => if c.all oneCell then some (.slice (some ⟨Vec.size H, 0, none⟩) n (2 * n + 1), anew H c) else none | none => none)
 | none => none
def xCut (f : Value → Option Value → Option Value → Option Value → Option Value) (ev : χ → Option Value) (x : χ) (lo hi mx : Option χ) : Option Value :=
 match ev x, xo ev lo, xo ev hi, xo ev mx with
 | some v, some lo, some hi, some mx => f v lo hi mx
 | _, _, _, _ => none
def xScut (ev : χ → Option Value) (x : χ) (lo hi : Option χ) : Option Value :=
 match ev x, xo ev lo, xo ev hi with
 | some v, some lo, some hi => fScut v lo hi
 | _, _, _ => none
def fFaddr (off : Nat) (a : Value) : Option Value := match a with | .pointer (some a) => some (.pointer (some (a.add off))) | _ => none
def fFld (n : Option Nat) (off : Nat) (a : Value) : Option Value := match a with | .agg cs => acells cs.toList n off | _ => none
def fExt (i : Nat) (a : Value) : Option Value := match a with | .tuple vs => vs.toList[i]? | _ => none
def xMkfn (ev : χ → Option Value) (f : FuncId) (first captured : List χ) : Option Value :=
 match evs ev first, evs ev captured with
 | some a, some c => some (.func (.func f) a.toArray c.toArray)
 | _, _ => none
def fNilchk (a : Value) : Option Value :=
 match a with
 | .pointer (some a) => some (.pointer (some a))
 | .func (.func f) a c => some (.func (.func f) a c)
 | _ => none
def fLen (a : Value) : Option Value := match a with | .slice _ n _ => some (.int .i64 n) | .iface _ (.slice (some ⟨_, _, none⟩) n _) => some (.int .i64 n) | _ => none
def xCall (call : Value → List Value → AH V → Option (Value × AH V)) (ev : χ → Option Value) (H : AH V) (f : χ) (args : List χ) : Option (Value × AH V) :=
 match ev f, evs ev args with
 | some fv, some vs => call fv vs H
 | _, _ => none
def aexec (P : Program) (call : Value → List Value → AH V → Option (Value × AH V)) (op : AOp χ) (ev : χ → Option Value) (H : AH V) : Option (Value × AH V) :=
 match op with
 | .bad => none
 | .mov x => withH H (ev x)
 | .pick c a b => withH H (xPick ev c a b)
 | .bin op x y => withH H (x2 (abin op) ev x y)
 | .eqn kd neg x y => withH H (x2 (fEqn kd neg) ev x y)
 | .not x => withH H (x1 fNot ev x)
 | .conv k x => withH H (x1 (fConv k) ev x)
 | .beq neg x y => withH H (x2 (fBeq neg) ev x y)
 | .flat o l => withH H (xs (aflat P o) ev l)
 | .sbin op x y => withH H (x2 (fSbin op) ev x y)
 | .sidx x i => withH H (x2 fSidx ev x i)
 | .slen x => withH H (x1 fSlen ev x)
 | .scut x lo hi => withH H (xScut ev x lo hi)
 | .load n a => withH H (x1 (aload H n) ev a)
 | .store n a x => x2 (fStore n H) ev a x
 | .alloc cs => newPtr H cs
 | .box x => x1 (fBox H) ev x
 | .build cs ps => withH H (xBuild ev cs ps)
 | .mkarr n cs ps => xMkarr ev H n cs ps
 | .mkslice zero bytes l c => x2 (amkslice zero bytes H) ev l c
 | .slice size x lo hi mx => withH H (xCut (asliceV size) ev x lo hi mx)
 | .slarr len size x lo hi mx => withH H (xCut (aslarr len size) ev x lo hi mx)
 | .faddr off x => withH H (x1 (fFaddr off) ev x)
 | .fld n off x => withH H (x1 (fFld n off) ev x)
 | .iaddr size x i => withH H (x2 (aindex size) ev x i)
 | .iarr len size x i => withH H (x2 (aindexA len size) ev x i)
 | .ext x i => withH H (x1 (fExt i) ev x)
 | .mkfn f first captured => withH H (xMkfn ev f first captured)
 | .nilchk x => withH H (x1 fNilchk ev x)
 | .len x => withH H (x1 fLen ev x)
 | .append share size bytes s x => x2 (aappend share size bytes H) ev s x
 | .copy size d s => x2 (acopy size H) ev d s
 | .call f args => xCall call ev H f args
 | .xt g l => withH H (xs (aflat P (.xt g)) ev l)
end
inductive Task (V : Type → Type)
 | code (inR : Bool) (c : ACode) (T : AT) (H : AH V) (ds : List Nat)
 | scope (inR : Bool) (b cur : ACode) (T : AT) (H : AH V) (ds : List Nat)
 | call (f : FuncId) (args : List Value) (H : AH V)
 | round (l : Nat) (args : List Value) (H : AH V)
structure Res (V : Type → Type) where
 e : AE
 T : AT
 H : AH V
 ds : List Nat
 v : Value := undef
structure Env (V : Type → Type) where
 P : Program
 fn : FuncId → Option AFunc
 ext : FuncId → List Value → AH V → Option (Value × AH V)
def acallV (rec : Task V → Option (Res V)) (fv : Value) (args : List Value) (H : AH V) : Option (Value × AH V) :=
 match fv with
 | .func (.func f) first captured => match rec (.call f (first.toList ++ args ++ captured.toList) H) with
   | some ⟨_, _, H', _, v⟩ => some (v, H')
   | _ => none
 | .func (.yield l) ⟨[]⟩ ⟨[]⟩ => match rec (.round l args H) with
   | some ⟨_, _, H', _, v⟩ => some (v, H')
   | _ => none
 | _ => none
def aback (T0 L : List Value) : List (Nat × Src) → AT → Option AT
 | [], T => some T
 | (i, s) :: r, T => match sev T0 L s with
   | some v => aback T0 L r (T.set i v)
   | none => none
def aops (P : Program) (call : Value → List Value → AH V → Option (Value × AH V)) (T : AT) : List AOper → List Value → AH V → Option (List Value × AH V)
 | [], L, H => some (L, H)
 | o :: r, L, H =>
   match awanted T L o.g with
   | true => (match aexec P call o.op (sev T L) H with
     | some (v, H') => aops P call T r (v :: L) H'
     | none => none)
   | false => aops P call T r (undef :: L) H
def stable (snaps : List (AH V)) (k : Nat) (n : Option Nat) (p v : Value) : Bool :=
 (snaps.take k).all fun H => match aload H n p with | some u => veq u v | none => false
def loadOk (T L : List Value) (snaps : List (AH V)) (lo : Nat) (op : AOp Src) (v : Value) : Bool :=
 match op with
 | .load n a => (match sev T L a with | some p => stable (snaps.drop 1) (snaps.length - 1 - lo) n p v | none => false)
 | _ => true
def adraw (P : Program) (call : Value → List Value → AH V → Option (Value × AH V)) (T : AT) : List AOper → List (AH V) → List Value → AH V → Option (List Value × AH V)
 | [], _, L, H => some (L, H)
 | o :: r, snaps, L, H =>
   match awanted T L o.g with
   | true => (match aexec P call o.op (sev T L) H with
     | some (v, H') => (match (bif loadOk T L snaps o.lo o.op v then Nat.ble (Vec.size H) (Vec.size H') else false) with
       | true => adraw P call T r (bif isEff o.op then H' :: snaps else snaps) (v :: L) H'
       | false => none)
     | none => none)
   | false => adraw P call T r (bif isEff o.op then H :: snaps else snaps) (undef :: L) H
def afind : ACode → Nat → Option ACode
 | .seq a b, l => match afind a l with
   | some rest => some (.seq rest b)
   | none => afind b l
 | .label l', l => if l' == l then some .skip else none
 | _, _ => none
def ares (T : AT) (H : AH V) : List ARes → Option (List Value)
 | [] => some []
 | r :: rs => match (match r with | .tmp t => T[t]? | .cell t n => x1 (aload H n) (T[·]?) t) with
   | some v => (match ares T H rs with | some vs => some (v :: vs) | none => none)
   | none => none
def pack : List Value → Value
 | [v] => v
 | vs => .tuple vs.toArray
def shut (H : AH V) : List Nat → Option (AH V)
 | [] => some H
 | d :: ds => match Vec.get H d with
   | some .defr => shut (Vec.set H d .dead) ds
   | _ => none
def setParams (T : AT) : List (Option Nat) → List Value → Option AT
 | [], [] => some T
 | some p :: ps, v :: vs => setParams (T.set p v) ps vs
 | none :: ps, _ :: vs => setParams T ps vs
 | _, _ => none
def sSeq (rec : Task V → Option (Res V)) (inR : Bool) (b : ACode) (r : Option (Res V)) : Option (Res V) :=
 match r with
 | some ⟨.norm, T, H, ds, _⟩ => rec (.code inR b T H ds)
 | r => r
def sCond (rec : Task V → Option (Res V)) (inR : Bool) (a b : ACode) (T : AT) (H : AH V) (ds : List Nat) (v : Option Value) : Option (Res V) :=
 match v with
 | some (.bool t) => rec (.code inR (bif t then a else b) T H ds)
 | _ => none
def sBlock (id : Nat) (r : Option (Res V)) : Option (Res V) :=
 match r with
 | some ⟨.exit i, T, H, ds, v⟩ => bif Nat.beq i id then some ⟨.norm, T, H, ds, v⟩ else some ⟨.exit i, T, H, ds, v⟩
 | r => r
def sRegion (T : AT) (back : List (Nat × Src)) (ds : List Nat) (r : Option (List Value × AH V)) : Option (Res V) :=
 match r with
 | some (L, H) => (match aback T L back T with | some T' => some ⟨.norm, T', H, ds, undef⟩ | none => none)
 | none => none
def sScope (rec : Task V → Option (Res V)) (inR : Bool) (b : ACode) (r : Option (Res V)) : Option (Res V) :=
 match r with
 | some ⟨.goto l, T, H, ds, v⟩ => (match afind b l with
   | some rest => rec (.scope inR b rest T H ds)
   | none => some ⟨.goto l, T, H, ds, v⟩)
 | r => r
def sRangeEnd (l d : Nat) (T : AT) (ds : List Nat) (r : Option (Res V)) : Option (Res V) :=
 match r with
 | some ⟨_, _, H, _, _⟩ =>
   match Vec.get H l with
   | some (.loop _ _ _ _ .ready none) => some ⟨.norm, T, Vec.set H l .dead, d :: ds, undef⟩
   | some (.loop _ _ _ _ .done (some e)) => some ⟨e, T, Vec.set H l .dead, d :: ds, undef⟩
   | _ => none
 | none => none
def sRange (rec : Task V → Option (Res V)) (inR : Bool) (ps : List (Option Nat)) (assign body : ACode) (T : AT) (H : AH V) (ds : List Nat) (g : Option Value) : Option (Res V) :=
 match inR, g with
 | false, some (.func (.func f) first captured) =>
   sRangeEnd (Vec.size H + 1) (Vec.size H) T ds (rec (.call f (first.toList ++ [.func (.yield (Vec.size H + 1)) #[] #[]] ++ captured.toList) (Vec.push (Vec.push H .defr) (.loop T ps assign body .ready none))))
 | _, _ => none
def sRet (fn : AFunc) (T : AT) (H : Option (AH V)) : Option (Res V) :=
 match H with
 | some H => (match ares T H fn.res with | some vs => some ⟨.norm, [], H, [], pack vs⟩ | none => none)
 | none => none
def sCallEnd (fn : AFunc) (r : Option (Res V)) : Option (Res V) :=
 match r with
 | some ⟨.norm, T, H, ds, _⟩ => sRet fn T (shut H ds)
 | some ⟨.ret, T, H, ds, _⟩ => sRet fn T (shut H ds)
 | _ => none
def sCall (rec : Task V → Option (Res V)) (args : List Value) (H : AH V) (fn : Option AFunc) : Option (Res V) :=
 match fn with
 | some fn => sCallEnd fn (rec (.code false fn.body (fn.keep.map fun t => (args[t]?).getD undef) H []))
 | none => none
def sExt (x : Option (Value × AH V)) (r : Option (Res V)) : Option (Res V) :=
 match x with
 | some (v, H') => some ⟨.norm, [], H', [], v⟩
 | none => r
def toBusy (b : Option Blk) : Option Blk :=
 match b with
 | some (.loop T ps as_ bd .ready none) => some (.loop T ps as_ bd .busy none)
 | _ => none
def toEnd (e : AE) (b : Option Blk) : Option Blk :=
 match b with
 | some (.loop T ps as_ bd .busy none) => (match e with
   | .norm => some (.loop T ps as_ bd .ready none)
   | e => some (.loop T ps as_ bd .done (some e)))
 | _ => none
def isNorm : AE → Bool | .norm => true | _ => false
def sRoundEnd (l : Nat) (r : Option (Res V)) : Option (Res V) :=
 match r with
 | some ⟨e, _, H, [], _⟩ =>
   (match toEnd e (Vec.get H l) with
   | some B => some ⟨.norm, [], Vec.set H l B, [], .bool (isNorm e)⟩
   | none => none)
 | _ => none
def sRoundMid (rec : Task V → Option (Res V)) (l : Nat) (body : ACode) (r : Option (Res V)) : Option (Res V) :=
 match r with
 | some ⟨.norm, T2, H2, [], _⟩ =>
   (match toBusy (Vec.get H2 l) with
   | some B => sRoundEnd l (rec (.code true body T2 (Vec.set H2 l B) []))
   | none => none)
 | _ => none
def sRound (rec : Task V → Option (Res V)) (l : Nat) (args : List Value) (H : AH V) (b : Option Blk) : Option (Res V) :=
 match b with
 | some (.loop T ps assign body .ready none) =>
   (match setParams T ps args with
   | some T1 => sRoundMid rec l body (rec (.code true assign T1 H []))
   | none => none)
 | _ => none
def sCode (E : Env V) (rec : Task V → Option (Res V)) (inR : Bool) (c : ACode) (T : AT) (H : AH V) (ds : List Nat) : Option (Res V) :=
 match c with
 | .bad => none
 | .skip => some ⟨.norm, T, H, ds, undef⟩
 | .label _ => some ⟨.norm, T, H, ds, undef⟩
 | .ret => some ⟨.ret, T, H, ds, undef⟩
 | .exit id => some ⟨.exit id, T, H, ds, undef⟩
 | .goto l => some ⟨.goto l, T, H, ds, undef⟩
 | .seq a b => sSeq rec inR b (rec (.code inR a T H ds))
 | .cond c a b => sCond rec inR a b T H ds (sev T [] c)
 | .block id b => sBlock id (rec (.code inR b T H ds))
 | .loop b => sSeq rec inR (.loop b) (rec (.code inR b T H ds))
 | .scope b => rec (.scope inR b b T H ds)
 | .region ops back => sRegion T back ds (aops E.P (acallV rec) T ops [] H)
 | .draw ops back => sRegion T back ds (adraw E.P (acallV rec) T ops [H] [] H)
 | .rangeFunc g ps assign body => sRange rec inR ps assign body T H ds (sev T [] g)
def astep (E : Env V) (rec : Task V → Option (Res V)) : Task V → Option (Res V)
 | .code inR c T H ds => sCode E rec inR c T H ds
 | .scope inR b cur T H ds => sScope rec inR b (rec (.code inR cur T H ds))
 | .call f args H => sExt (E.ext f args H) (sCall rec args H (E.fn f))
 | .round l args H => sRound rec l args H (Vec.get H l)
def arun (E : Env V) : Nat → Task V → Option (Res V)
 | 0, _ => none
 | n + 1, t => astep E (arun E n) t
def acall (E : Env V) (n : Nat) (f : FuncId) (args : List Value) (H : AH V) : Option (Value × AH V) :=
 match arun E n (.call f args H) with
 | some ⟨_, _, H', _, v⟩ => some (v, H')
 | _ => none
end
end Go.Proofs.Ytggaimcopbjdiaa.AM
namespace Go.Proofs.Ytggaimcopbjdiaa.AM
structure Rho where
 f : Nat → Option (Nat × Nat)
 lim : Nat → Option (Nat × Nat)
instance : CoeFun Rho (fun _ => Nat → Option (Nat × Nat)) := ⟨Rho.f⟩
def Rho.le (ρ ρ' : Rho) : Prop := ∀ b p, ρ b = some p → ρ' b = some p ∧ ρ'.lim b = ρ.lim b
theorem Rho.le.refl (ρ : Rho) : ρ.le ρ := fun _ _ h => ⟨h, rfl⟩
theorem Rho.le.trans {a b c : Rho} (h : a.le b) (k : b.le c) : a.le c := fun _ _ x => let ⟨u, v⟩ := h _ _ x; let ⟨y, z⟩ := k _ _ u; ⟨y, z.trans v⟩
def Rho.upd (ρ : Rho) (b : Nat) (p : Nat × Nat) (l : Option (Nat × Nat)) : Rho := ⟨fun i => if i = b then some p else ρ i, fun i => if i = b then l else ρ.lim i⟩
theorem Rho.upd_same (ρ : Rho) (b : Nat) (p : Nat × Nat) (l : Option (Nat × Nat)) : ρ.upd b p l b = some p := by simp [Rho.upd]
theorem Rho.upd_ne (ρ : Rho) {b i : Nat} (p : Nat × Nat) (l : Option (Nat × Nat)) (h : i ≠ b) : ρ.upd b p l i = ρ i := by simp [Rho.upd, h]
theorem Rho.lim_same (ρ : Rho) (b : Nat) (p : Nat × Nat) (l : Option (Nat × Nat)) : (ρ.upd b p l).lim b = l := by simp [Rho.upd]
theorem Rho.lim_ne (ρ : Rho) {b i : Nat} (p : Nat × Nat) (l : Option (Nat × Nat)) (h : i ≠ b) : (ρ.upd b p l).lim i = ρ.lim i := by simp [Rho.upd, h]
theorem Rho.le_upd {ρ : Rho} {b : Nat} (p : Nat × Nat) (l : Option (Nat × Nat)) (h : ρ b = none) : ρ.le (ρ.upd b p l) := fun i q hq => by
 by_cases e : i = b
 ·subst e; rw [h] at hq; cases hq
 ·rw [Rho.upd_ne ρ p l e, Rho.lim_ne ρ p l e]; exact ⟨hq, rfl⟩
def Lim (l : Option (Nat × Nat)) (co o c c' : Nat) : Prop := o = 0 → ∀ L sz, l = some (L, sz) → ∀ size, c * size = L → co + c' * size ≤ sz
mutual
inductive VRel (ρ : Rho) : Value → Value → Prop
 | flat {v : Value} (h : flat v = true) : VRel ρ v v
 | ptr {b o cb co : Nat} (h : ρ b = some (cb, co)) : VRel ρ (.pointer (some ⟨b, o, none⟩)) (.pointer (some ⟨cb, co + o, none⟩))
 | sl {b o cb co n c c' e : Nat} (h : ρ b = some (cb, co)) (hc : c ≤ c') (he : e ≤ 1) (hx : e = 1 → c' = c) (hl : e = 0 → Lim (ρ.lim b) co o c c') :
   VRel ρ (.slice (some ⟨b, o, none⟩) n (2 * c + e)) (.slice (some ⟨cb, co + o, none⟩) n c')
 | slz {b o cb co o' c' e : Nat} (h : ρ b = some (cb, co)) (he : e ≤ 1) (hx : e = 1 → c' = 0) : VRel ρ (.slice (some ⟨b, o, none⟩) 0 e) (.slice (some ⟨cb, o', none⟩) 0 c')
 | wild {b o s c' e : Nat} {a' : Addr} (he : e ≤ 1) (hx : e = 1 → c' = 0) : VRel ρ (.slice (some ⟨b, o, some s⟩) 0 e) (.slice (some a') 0 c')
 | que {b o cb co n c' sz : Nat} (h : ρ b = some (cb, co)) (hn : n ≤ c' ∧ c' ≤ 9223372036854775807) (hl : ρ.lim b = some (o + n, sz)) (hs : co + o + c' ≤ sz) : VRel ρ (.iface 0 (.slice (some ⟨b, o, none⟩) n 0)) (.slice (some ⟨cb, co + o, none⟩) n c')
 | quez {b o cb co o' : Nat} (h : ρ b = some (cb, co)) : VRel ρ (.iface 0 (.slice (some ⟨b, o, none⟩) 0 0)) (.slice (some ⟨cb, o', none⟩) 0 0)
 | fn {f : FuncId} {a c a' c' : Array Value} (ha : VRels ρ a.toList a'.toList) (hc : VRels ρ c.toList c'.toList) : VRel ρ (.func (.func f) a c) (.func (.func f) a' c')
 | yld {l cl co : Nat} (h : ρ l = some (cl, co)) : VRel ρ (.func (.yield l) #[] #[]) (.func (.yield cl) #[] #[])
 | agg {a a' : Array Value} (h : VRels ρ a.toList a'.toList) : VRel ρ (.agg a) (.agg a')
 | tup {a a' : Array Value} (h : VRels ρ a.toList a'.toList) : VRel ρ (.tuple a) (.tuple a')
inductive VRels (ρ : Rho) : List Value → List Value → Prop
 | nil : VRels ρ [] []
 | cons {v v' : Value} {l l' : List Value} (h : VRel ρ v v') (t : VRels ρ l l') : VRels ρ (v :: l) (v' :: l')
end
mutual
theorem VRel.mono {ρ ρ' : Rho} (h : ρ.le ρ') : ∀ {v v' : Value}, VRel ρ v v' → VRel ρ' v v'
 | _, _, .flat x => .flat x
 | _, _, .ptr x => .ptr (h _ _ x).1
 | _, _, .sl x hc he hx hl => .sl (h _ _ x).1 hc he hx (by rw [(h _ _ x).2]; exact hl)
 | _, _, .slz x he hx => .slz (h _ _ x).1 he hx
 | _, _, .wild he hx => .wild he hx
 | _, _, .que x hn hl hs => .que (h _ _ x).1 hn ((h _ _ x).2.trans hl) hs
 | _, _, .quez x => .quez (h _ _ x).1
 | _, _, .fn a c => .fn (VRels.mono h a) (VRels.mono h c)
 | _, _, .yld x => .yld (h _ _ x).1
 | _, _, .agg x => .agg (VRels.mono h x)
 | _, _, .tup x => .tup (VRels.mono h x)
theorem VRels.mono {ρ ρ' : Rho} (h : ρ.le ρ') : ∀ {l l' : List Value}, VRels ρ l l' → VRels ρ' l l'
 | _, _, .nil => .nil
 | _, _, .cons x t => .cons (VRel.mono h x) (VRels.mono h t)
end
section
variable {ρ : Rho}
theorem VRels.length {l l' : List Value} (h : VRels ρ l l') : l.length = l'.length := by
 induction l generalizing l' with
 | nil => cases h; rfl
 | cons v l ih => cases h with | cons _ t => simp [ih t]
theorem VRels.get {l l' : List Value} (h : VRels ρ l l') : ∀ {i : Nat} {v : Value}, l[i]? = some v → ∃ v', l'[i]? = some v' ∧ VRel ρ v v' := by
 induction l generalizing l' with
 | nil => intro i v hv; simp at hv
 | cons u l ih =>
   cases h with
   | cons hu t =>
     intro i v hv
     cases i with
     | zero => simp at hv; subst hv; exact ⟨_, rfl, hu⟩
     | succ i => simpa using ih t (by simpa using hv)
theorem VRels.of_get {l l' : List Value} (hl : l.length = l'.length) (h : ∀ (i : Nat) (v : Value), l[i]? = some v → ∃ v', l'[i]? = some v' ∧ VRel ρ v v') : VRels ρ l l' := by
 induction l generalizing l' with
 | nil => cases l' with
   | nil => exact .nil
   | cons _ _ => simp at hl
 | cons v l ih =>
   cases l' with
   | nil => simp at hl
   | cons v' l' =>
     refine .cons ?_ (ih (by simpa using hl) fun i u hu => by simpa using h (i + 1) u (by simpa using hu))
     obtain ⟨u, hu, hr⟩ := h 0 v rfl
     simp at hu
     exact hu ▸ hr
theorem VRels.append {a a' b b' : List Value} (h : VRels ρ a a') (k : VRels ρ b b') : VRels ρ (a ++ b) (a' ++ b') := by
 induction a generalizing a' with
 | nil => cases h; exact k
 | cons v a ih => cases h with | cons x t => exact .cons x (ih t)
theorem VRels.take {l l' : List Value} (h : VRels ρ l l') (n : Nat) : VRels ρ (l.take n) (l'.take n) := by
 induction l generalizing l' n with
 | nil => cases h; simp; exact .nil
 | cons v l ih =>
   cases h with
   | cons x t =>
     cases n with
     | zero => exact .nil
     | succ n => exact .cons x (ih t n)
theorem VRels.drop {l l' : List Value} (h : VRels ρ l l') (n : Nat) : VRels ρ (l.drop n) (l'.drop n) := by
 induction l generalizing l' n with
 | nil => cases h; simp; exact .nil
 | cons v l ih =>
   cases h with
   | cons x t =>
     cases n with
     | zero => exact .cons x t
     | succ n => exact ih t n
theorem VRels.flat {l : List Value} (h : ∀ v ∈ l, Go.Proofs.Ytggaimcopbjdiaa.AM.flat v = true) : VRels ρ l l := by
 induction l with
 | nil => exact .nil
 | cons v l ih => exact .cons (.flat (h v (by simp))) (ih fun u hu => h u (by simp [hu]))
theorem flat_of_flat1 {v : Value} (h : flat1 v = true) : flat v = true := by
 cases v <;> simp_all [flat1, flat]
theorem VRel.int {k : IntKind} {n : Int} {v : Value} (h : VRel ρ (.int k n) v) : v = .int k n := by cases h; rfl
theorem VRel.bool {b : Bool} {v : Value} (h : VRel ρ (.bool b) v) : v = .bool b := by cases h; rfl
theorem VRel.string {s : ByteArray} {v : Value} (h : VRel ρ (.string s) v) : v = .string s := by cases h; rfl
theorem VRel.nilFunc {v : Value} (h : VRel ρ .nilFunc v) : v = .nilFunc := by cases h; rfl
theorem VRel.ptr_none {v : Value} (h : VRel ρ (.pointer none) v) : v = .pointer none := by cases h; rfl
theorem VRel.ptr_some {a : Addr} {v : Value} (h : VRel ρ (.pointer (some a)) v) : ∃ b o cb co, a = ⟨b, o, none⟩ ∧ ρ b = some (cb, co) ∧ v = .pointer (some ⟨cb, co + o, none⟩) := by
 cases h with
 | flat h => simp [Go.Proofs.Ytggaimcopbjdiaa.AM.flat, flat1] at h
 | ptr h => exact ⟨_, _, _, _, rfl, h, rfl⟩
theorem flat_slice_none {n c : Nat} (h : flat (.slice none n c) = true) : n = 0 ∧ c = 0 := by
 cases n with
 | zero => cases c with
   | zero => exact ⟨rfl, rfl⟩
   | succ c => simp [flat, flat1] at h
 | succ n => simp [flat, flat1] at h
theorem VRel.sl_none {n c : Nat} {v : Value} (h : VRel ρ (.slice none n c) v) : n = 0 ∧ c = 0 ∧ v = .slice none 0 0 := by
 cases h with
 | flat h => obtain ⟨rfl, rfl⟩ := flat_slice_none h; exact ⟨rfl, rfl, rfl⟩
theorem VRel.sl_some {a : Addr} {n ce : Nat} {v : Value} (h : VRel ρ (.slice (some a) n ce) v) (hs : a.spot = none) :
  ∃ b o cb co, a = ⟨b, o, none⟩ ∧ ρ b = some (cb, co) ∧
   ((∃ c', v = .slice (some ⟨cb, co + o, none⟩) n c' ∧ ce / 2 ≤ c' ∧ (ce % 2 = 1 → c' = ce / 2) ∧ (ce % 2 = 0 → Lim (ρ.lim b) co o (ce / 2) c')) ∨ (n = 0 ∧ ce ≤ 1 ∧ ∃ o' c', v = .slice (some ⟨cb, o', none⟩) 0 c' ∧ (ce = 1 → c' = 0))) := by
 cases h with
 | flat h => simp [Go.Proofs.Ytggaimcopbjdiaa.AM.flat, flat1] at h
 | @sl _ _ _ _ _ c _ e h hc he hx hl =>
   have hq : (2 * c + e) / 2 = c := by omega
   exact ⟨_, _, _, _, rfl, h, .inl ⟨_, rfl, by omega, fun hh => by rw [hx (by omega)]; omega, fun hh => by rw [hq]; exact hl (by omega)⟩⟩
 | slz h he hx => exact ⟨_, _, _, _, rfl, h, .inr ⟨rfl, he, _, _, rfl, hx⟩⟩
 | wild he hx => cases hs
theorem VRel.que_inv {t b o n ce : Nat} {v : Value} (h : VRel ρ (.iface t (.slice (some ⟨b, o, none⟩) n ce)) v) : t = 0 ∧ ce = 0 ∧ ∃ cb co, ρ b = some (cb, co) ∧
  ((∃ c' sz, v = .slice (some ⟨cb, co + o, none⟩) n c' ∧ (n ≤ c' ∧ c' ≤ 9223372036854775807) ∧ ρ.lim b = some (o + n, sz) ∧ co + o + c' ≤ sz) ∨ (n = 0 ∧ ∃ o', v = .slice (some ⟨cb, o', none⟩) 0 0)) := by
 cases h with
 | flat h => simp [Go.Proofs.Ytggaimcopbjdiaa.AM.flat, flat1] at h
 | que h hn hl hs => exact ⟨rfl, rfl, _, _, h, .inl ⟨_, _, rfl, hn, hl, hs⟩⟩
 | quez h => exact ⟨rfl, rfl, _, _, h, .inr ⟨rfl, _, rfl⟩⟩
theorem VRel.sl_any {a : Addr} {n ce : Nat} {v : Value} (h : VRel ρ (.slice (some a) n ce) v) : a.spot = none ∨ (n = 0 ∧ ce ≤ 1 ∧ ∃ a' c', v = .slice (some a') 0 c' ∧ (ce = 1 → c' = 0) ∧ ∃ b o s, a = ⟨b, o, some s⟩) := by
 cases h with
 | flat h => simp [Go.Proofs.Ytggaimcopbjdiaa.AM.flat, flat1] at h
 | sl _ _ _ _ _ => exact .inl rfl
 | slz _ _ _ => exact .inl rfl
 | wild he hx => exact .inr ⟨rfl, he, _, _, rfl, hx, _, _, _, rfl⟩
theorem VRel.mk_sl {b o cb co n ce c' : Nat} (h : ρ b = some (cb, co)) (hc : ce / 2 ≤ c') (hx : ce % 2 = 1 → c' = ce / 2) (hl : ce % 2 = 0 → Lim (ρ.lim b) co o (ce / 2) c') : VRel ρ (.slice (some ⟨b, o, none⟩) n ce) (.slice (some ⟨cb, co + o, none⟩) n c') := by
 have e : ce = 2 * (ce / 2) + ce % 2 := by omega
 rw [e]
 exact .sl h hc (by omega) hx hl
theorem VRel.fn_inv {f : FuncId} {a c : Array Value} {v : Value} (h : VRel ρ (.func (.func f) a c) v) : ∃ a' c', v = .func (.func f) a' c' ∧ VRels ρ a.toList a'.toList ∧ VRels ρ c.toList c'.toList := by
 cases h with
 | flat h => simp [Go.Proofs.Ytggaimcopbjdiaa.AM.flat, flat1] at h
 | fn ha hc => exact ⟨_, _, rfl, ha, hc⟩
theorem VRel.agg_inv {a : Array Value} {v : Value} (h : VRel ρ (.agg a) v) : ∃ a', v = .agg a' ∧ VRels ρ a.toList a'.toList := by
 cases h with
 | flat h =>
   refine ⟨a, rfl, VRels.flat fun v hv => flat_of_flat1 ?_⟩
   simp only [Go.Proofs.Ytggaimcopbjdiaa.AM.flat, List.all_eq_true] at h
   exact h v hv
 | agg h => exact ⟨_, rfl, h⟩
theorem VRel.tup_inv {a : Array Value} {v : Value} (h : VRel ρ (.tuple a) v) : ∃ a', v = .tuple a' ∧ VRels ρ a.toList a'.toList := by
 cases h with
 | flat h =>
   simp only [Go.Proofs.Ytggaimcopbjdiaa.AM.flat, List.isEmpty_iff] at h
   exact ⟨a, rfl, by rw [h]; exact .nil⟩
 | tup h => exact ⟨_, rfl, h⟩
theorem VRel.of_flat1 {v v' : Value} (h : VRel ρ v v') (hf : flat1 v = true) : v' = v := by
 cases h <;> first | rfl | (simp [flat1] at hf)
theorem VRels.of_flat1 {l l' : List Value} (h : VRels ρ l l') (hf : l.all flat1 = true) : l' = l := by
 induction l generalizing l' with
 | nil => cases h; rfl
 | cons v l ih =>
   cases h with
   | cons x t =>
     simp only [List.all_cons, Bool.and_eq_true] at hf
     rw [x.of_flat1 hf.1, ih t hf.2]
theorem VRel.of_flat {v v' : Value} (h : VRel ρ v v') (hf : Go.Proofs.Ytggaimcopbjdiaa.AM.flat v = true) : v' = v := by
 cases h with
 | flat _ => rfl
 | agg h =>
   simp only [Go.Proofs.Ytggaimcopbjdiaa.AM.flat] at hf
   exact congrArg Value.agg (Array.ext' (h.of_flat1 hf))
 | tup h =>
   simp only [Go.Proofs.Ytggaimcopbjdiaa.AM.flat, List.isEmpty_iff] at hf
   rename_i a a'
   have hl := h.length
   rw [hf] at hl
   exact congrArg Value.tuple (Array.ext' ((List.eq_nil_of_length_eq_zero hl.symm).trans hf.symm))
 | _ => simp [Go.Proofs.Ytggaimcopbjdiaa.AM.flat, flat1] at hf
theorem VRels.of_flat {l l' : List Value} (h : VRels ρ l l') (hf : l.all Go.Proofs.Ytggaimcopbjdiaa.AM.flat = true) : l' = l := by
 induction l generalizing l' with
 | nil => cases h; rfl
 | cons v l ih =>
   cases h with
   | cons x t =>
     simp only [List.all_cons, Bool.and_eq_true] at hf
     rw [x.of_flat hf.1, ih t hf.2]
theorem VRel.oneCell {v v' : Value} (h : VRel ρ v v') : Go.Proofs.Ytggaimcopbjdiaa.AM.oneCell v' = Go.Proofs.Ytggaimcopbjdiaa.AM.oneCell v := by
 cases h <;> rfl
theorem VRel.cells {v v' : Value} (h : VRel ρ v v') : VRels ρ v.cells.toList v'.cells.toList := by
 cases h with
 | agg h => exact h
 | flat h =>
   refine VRels.flat fun u hu => ?_
   cases v <;> simp [Value.cells] at hu <;> (try (subst hu; exact h))
   simp only [Go.Proofs.Ytggaimcopbjdiaa.AM.flat, List.all_eq_true] at h
   exact flat_of_flat1 (h u (by simpa using hu))
 | ptr h => exact .cons (.ptr h) .nil
 | sl h a b c d => exact .cons (.sl h a b c d) .nil
 | slz h he hx => exact .cons (.slz h he hx) .nil
 | wild he hx => exact .cons (.wild he hx) .nil
 | que h a b c => exact .cons (.que h a b c) .nil
 | quez h => exact .cons (.quez h) .nil
 | fn a c => exact .cons (.fn a c) .nil
 | yld h => exact .cons (.yld h) .nil
 | tup h => exact .cons (.tup h) .nil
theorem oneCell_eq (v : Value) : Go.Proofs.Ytggaimcopbjdiaa.AM.oneCell v = v.oneCell' := by cases v <;> rfl
end
end Go.Proofs.Ytggaimcopbjdiaa.AM
namespace Go.Proofs.Ytggaimcopbjdiaa.AM
def AE.code : AE → Code
 | .norm => .skip
 | .exit id => .exit id
 | .goto l => .goto l
 | .ret => .ret
def TRel (ρ : Rho) (keep : List Nat) (T : List Value) (tmps : Array Value) : Prop :=
 ∀ t i, keep.idxOf? t = some i → ∃ v v', T[i]? = some v ∧ tmps[t]? = some v' ∧ VRel ρ v v'
theorem TRel.mono {ρ ρ' : Rho} (h : ρ.le ρ') {keep : List Nat} {T : List Value} {tmps : Array Value} (k : TRel ρ keep T tmps) : TRel ρ' keep T tmps := fun t i hi =>
 let ⟨v, v', a, b, c⟩ := k t i hi; ⟨v, v', a, b, c.mono h⟩
def BRel (P : Program) (X : Nat → Option Obj) (ρ : Rho) (w : World) (p : Nat × Nat) : Blk → Prop
 | .dead => True
 | .arr cs wr _ => ∃ c e fr, w.heap[p.1]? = some (.cells c e fr) ∧ p.2 + cs.length ≤ c.size ∧
   (∀ (i : Nat) (v : Value), cs[i]? = some v → ∃ v', c[p.2 + i]? = some v' ∧ VRel ρ v v') ∧
   (wr = true → X p.1 = none ∧ ∀ o, ¬ (fr.1 ≤ o ∧ o < fr.2))
 | .loop T ps as_ bd st pe => X p.1 = none ∧ ∃ (r : Loop) (share : Bool) (keep : List Nat) (nt : Nat), w.heap[p.1]? = some (.loop r) ∧ TRel ρ keep T r.tmps ∧
   (nt ≤ r.tmps.size ∧ cOk nt r.assign = true ∧ cOk nt r.body = true ∧ ∀ t ∈ r.params.toList, t < nt) ∧
   ps = r.params.toList.map (fun t => keep.idxOf? t) ∧ as_ = compile P share keep r.assign ∧ bd = compile P share keep r.body ∧ r.state = st ∧ r.pending = pe.map AE.code
 | .defr => X p.1 = none ∧ w.heap[p.1]? = some (.deferred (some []))
def sepOk : Blk → Nat × Nat → Blk → Nat × Nat → Prop
 | .arr _ true lo, p, B', p' => match B' with
   | .dead => True
   | .arr cs' false _ => p'.2 + cs'.length ≤ p.2 + lo
   | _ => False
 | .loop .., _, B', _ => B' = .dead
 | .defr, _, B', _ => B' = .dead
 | _, _, _, _ => True
structure St (P : Program) (X : Nat → Option Obj) (w0 : World) (ρ : Rho) (h : Nat → Blk) (w : World) : Prop where
 os : w.os = w0.os
 tape : w.tape = w0.tape
 output : w.output = w0.output
 size : w0.heap.size ≤ w.heap.size
 frame : ∀ cb o, X cb = some o → w.heap[cb]? = some o
 dom : ∀ b p, ρ b = some p → p.1 < w.heap.size
 blk : ∀ b p, ρ b = some p → BRel P X ρ w p (h b)
 sep : ∀ b b' p p', b ≠ b' → ρ b = some p → ρ b' = some p' → p.1 = p'.1 → sepOk (h b) p (h b') p'
 lim : ∀ b p cs lo, ρ b = some p → h b = .arr cs true lo → ∃ sz c e fr, ρ.lim b = some (cs.length, sz) ∧ w.heap[p.1]? = some (.cells c e fr) ∧ sz ≤ c.size
def setB (h : Nat → Blk) (b : Nat) (B : Blk) : Nat → Blk := fun i => if i = b then B else h i
theorem setB_same (h : Nat → Blk) (b : Nat) (B : Blk) : setB h b B b = B := by simp [setB]
theorem setB_ne (h : Nat → Blk) {b i : Nat} (B : Blk) (e : i ≠ b) : setB h b B i = h i := by simp [setB, e]
section
variable {P : Program} {X : Nat → Option Obj} {w0 w w' : World} {ρ ρ' : Rho} {h h' : Nat → Blk}
theorem BRel.mono (hl : ρ.le ρ') {p : Nat × Nat} {B : Blk} (hb : BRel P X ρ w p B) : BRel P X ρ' w p B := by
 cases B with
 | dead => trivial
 | arr cs wr lo =>
   obtain ⟨c, e, fr, h1, h2, h3, h4⟩ := hb
   exact ⟨c, e, fr, h1, h2, fun i v hv => let ⟨v', a, b⟩ := h3 i v hv; ⟨v', a, b.mono hl⟩, h4⟩
 | loop T ps a b st pe =>
   obtain ⟨h1, r, sh, keep, nt, h2, h3, h4⟩ := hb
   exact ⟨h1, r, sh, keep, nt, h2, h3.mono hl, h4⟩
 | defr => exact hb
theorem BRel.heap (p : Nat × Nat) {B : Blk} (hb : BRel P X ρ w p B) (he : w'.heap[p.1]? = w.heap[p.1]?) : BRel P X ρ w' p B := by
 cases B with
 | dead => trivial
 | arr cs wr lo => obtain ⟨c, e, fr, h1, h2⟩ := hb; exact ⟨c, e, fr, he.trans h1, h2⟩
 | loop T ps a b st pe => obtain ⟨h1, r, sh, keep, nt, h2, h3⟩ := hb; exact ⟨h1, r, sh, keep, nt, he.trans h2, h3⟩
 | defr => exact ⟨hb.1, he.trans hb.2⟩
theorem St.drawn (s : St P X w0 ρ h w) (n : Nat) : St P X w0 ρ h { w with drawn := n } :=
 ⟨s.os, s.tape, s.output, s.size, s.frame, s.dom, fun b p hp => (s.blk b p hp).heap p rfl, s.sep, s.lim⟩
theorem St.view (s : St P X w0 ρ h w) (he : ∀ b p, ρ b = some p → h' b = h b) : St P X w0 ρ h' w :=
 ⟨s.os, s.tape, s.output, s.size, s.frame, s.dom, fun b p hp => by rw [he b p hp]; exact s.blk b p hp,
  fun b b' p p' hne hp hp' hq => by rw [he b p hp, he b' p' hp']; exact s.sep b b' p p' hne hp hp' hq,
  fun b p cs lo hp hb => s.lim b p cs lo hp (by rw [← he b p hp]; exact hb)⟩
def weak (B' B : Blk) : Prop := B' = B ∨ B' = .dead ∨ ∃ cs w lo lo', B = .arr cs w lo ∧ B' = .arr cs false lo'
theorem BRel.weak {p : Nat × Nat} {B B' : Blk} (hw : weak B' B) (hb : BRel P X ρ w p B) : BRel P X ρ w p B' := by
 rcases hw with rfl | rfl | ⟨cs, wr, lo, lo', rfl, rfl⟩
 ·exact hb
 ·trivial
 ·obtain ⟨c, e, fr, h1, h2, h3, _⟩ := hb
  exact ⟨c, e, fr, h1, h2, h3, fun hf => by cases hf⟩
theorem sepOk_weak {p p' : Nat × Nat} {A A' B B' : Blk} (ha : weak A' A) (hb : weak B' B) (k : sepOk A p B p') (k' : sepOk B p' A p) : sepOk A' p B' p' := by
 rcases ha with rfl | rfl | ⟨cs, wr, lo, lo', rfl, rfl⟩
 ·rcases hb with rfl | rfl | ⟨cs, wr, lo, lo', rfl, rfl⟩
  ·exact k
  ·cases A' with
   | arr c w l => cases w <;> trivial
   | dead => trivial
   | _ => rfl
  ·cases A' with
   | arr c w l =>
     cases w with
     | false => trivial
     | true =>
       cases wr with
       | false => exact k
       | true => exact k.elim
   | dead => trivial
   | _ => cases k
 ·trivial
 ·trivial
theorem St.weaken (s : St P X w0 ρ h w) (hw : ∀ b p, ρ b = some p → weak (h' b) (h b)) : St P X w0 ρ h' w :=
 ⟨s.os, s.tape, s.output, s.size, s.frame, s.dom, fun b p hp => (s.blk b p hp).weak (hw b p hp),
  fun b b' p p' hne hp hp' hq => sepOk_weak (hw b p hp) (hw b' p' hp') (s.sep b b' p p' hne hp hp' hq) (s.sep b' b p' p (Ne.symm hne) hp' hp hq.symm),
  fun b p cs lo hp hb => s.lim b p cs lo hp (by
   rcases hw b p hp with e | e | ⟨cs', w', lo', lo'', e, e'⟩
   ·rw [← e]; exact hb
   ·rw [e] at hb; cases hb
   ·rw [e'] at hb; cases hb)⟩
theorem weak_refl (B : Blk) : weak B B := .inl rfl
theorem St.cell (s : St P X w0 ρ h w) {b cb co i : Nat} {cs : List Value} {wr : Bool} {lo : Nat} {v : Value} (hb : h b = .arr cs wr lo) (hp : ρ b = some (cb, co)) (hv : cs[i]? = some v) :
  ∃ v', w.cell? ⟨cb, co + i, none⟩ = some v' ∧ VRel ρ v v' := by
 have := s.blk b _ hp
 rw [hb] at this
 obtain ⟨c, e, fr, h1, h2, h3, _⟩ := this
 obtain ⟨v', a, r⟩ := h3 i v hv
 exact ⟨v', by simp only [World.cell?, h1]; simpa using a, r⟩
theorem St.range (s : St P X w0 ρ h w) {b cb co off n : Nat} {cs : List Value} {wr : Bool} {lo : Nat} (hb : h b = .arr cs wr lo) (hp : ρ b = some (cb, co)) (hl : off + n ≤ cs.length) :
  ∃ cs', VRels ρ ((cs.drop off).take n) cs' ∧ cs'.length = n ∧ w.rangeAt cb (co + off) cs' := by
 have := s.blk b _ hp
 rw [hb] at this
 obtain ⟨c, e, fr, h1, h2, h3, _⟩ := this
 simp only at h1 h2 h3
 refine ⟨(c.toList.drop (co + off)).take n, VRels.of_get (by simp; omega) fun i v hv => ?_, by simp; omega, fun j v hv => ?_⟩
 ·have hi : i < n := by have := (List.getElem?_eq_some_iff.1 hv).1; simp at this; omega
  rw [List.getElem?_take, if_pos hi, List.getElem?_drop] at hv
  obtain ⟨v', a, r⟩ := h3 _ _ hv
  refine ⟨v', ?_, r⟩
  rw [List.getElem?_take, if_pos hi, List.getElem?_drop, Array.getElem?_toList]
  rw [← a]; congr 1; omega
 ·have hi : j < n := by have := (List.getElem?_eq_some_iff.1 hv).1; simp at this; omega
  rw [List.getElem?_take, if_pos hi, List.getElem?_drop, Array.getElem?_toList] at hv
  simp only [World.cell?, h1]
  simpa using hv
theorem St.fresh (s : St P X w0 ρ h w) : X w.heap.size = none := by
 cases hx : X w.heap.size with
 | none => rfl
 | some o => have := s.frame _ _ hx; simp at this
theorem St.push (s : St P X w0 ρ h w) (o : Obj) {id : Nat} (hid : ρ id = none) (l : Option (Nat × Nat)) (hB : BRel P X (ρ.upd id (w.heap.size, 0) l) { w with heap := w.heap.push o } (w.heap.size, 0) (h id))
  (hL : ∀ cs lo, h id = .arr cs true lo → ∃ sz c e fr, l = some (cs.length, sz) ∧ o = .cells c e fr ∧ sz ≤ c.size) :
  St P X w0 (ρ.upd id (w.heap.size, 0) l) h { w with heap := w.heap.push o } := by
 have hle := Rho.le_upd (w.heap.size, 0) l hid
 have hold : ∀ b p, ρ b = some p → ({ w with heap := w.heap.push o } : World).heap[p.1]? = w.heap[p.1]? := fun b p hp => by
  have := s.dom b p hp
  show (w.heap.push o)[p.1]? = _
  rw [Array.getElem?_push, if_neg (by omega)]
 refine ⟨s.os, s.tape, s.output, by have := s.size; show _ ≤ (w.heap.push o).size; simp; omega, fun cb x hx => ?_, fun b p hp => ?_, fun b p hp => ?_, fun b b' p p' hne hp hp' hq => ?_, fun b p cs lo hp hb => ?_⟩
 ·have h1 := s.frame cb x hx
  have : cb < w.heap.size := (Array.getElem?_eq_some_iff.1 h1).1
  show (w.heap.push o)[cb]? = _
  rw [Array.getElem?_push, if_neg (by omega)]
  exact h1
 ·show p.1 < (w.heap.push o).size
  rw [Array.size_push]
  by_cases e : b = id
  ·subst e; rw [Rho.upd_same] at hp; cases hp; exact Nat.lt_succ_self _
  ·rw [Rho.upd_ne ρ _ _ e] at hp; have := s.dom b p hp; omega
 ·by_cases e : b = id
  ·subst e; rw [Rho.upd_same] at hp; cases hp; exact hB
  ·rw [Rho.upd_ne ρ _ _ e] at hp
   exact ((s.blk b p hp).mono hle).heap p (hold b p hp)
 ·by_cases e : b = id
  ·subst e
   rw [Rho.upd_same] at hp
   cases hp
   rw [Rho.upd_ne ρ _ _ (Ne.symm hne)] at hp'
   have := s.dom b' p' hp'
   simp at hq; omega
  ·rw [Rho.upd_ne ρ _ _ e] at hp
   by_cases e' : b' = id
   ·subst e'
    rw [Rho.upd_same] at hp'
    cases hp'
    have := s.dom b p hp
    simp at hq; omega
   ·rw [Rho.upd_ne ρ _ _ e'] at hp'
    exact s.sep b b' p p' hne hp hp' hq
 ·by_cases e : b = id
  ·subst e
   rw [Rho.upd_same] at hp
   cases hp
   obtain ⟨sz, c, e, fr, h1, h2, h3⟩ := hL cs lo hb
   exact ⟨sz, c, e, fr, by rw [Rho.lim_same]; exact h1, by show (w.heap.push o)[w.heap.size]? = _; rw [Array.getElem?_push_size, h2], h3⟩
  ·rw [Rho.upd_ne ρ _ _ e] at hp
   obtain ⟨sz, c, e', fr, h1, h2, h3⟩ := s.lim b p cs lo hp hb
   exact ⟨sz, c, e', fr, by rw [Rho.lim_ne ρ _ _ e]; exact h1, by rw [hold b p hp]; exact h2, h3⟩
theorem St.newRow (s : St P X w0 ρ h w) {id : Nat} (hid : ρ id = none) {cs : List Value} {lo : Nat} {c : Array Value} (e : TypeId) (hb : h id = .arr cs true lo) (hl : cs.length ≤ c.size) (hr : VRels ρ cs (c.toList.take cs.length)) :
  St P X w0 (ρ.upd id (w.heap.size, 0) (some (cs.length, c.size))) h (w.alloc (.cells c e)) := by
 refine s.push _ hid _ ?_ (fun cs' lo' hb' => by rw [hb] at hb'; cases hb'; exact ⟨_, c, e, (0, 0), rfl, rfl, Nat.le_refl _⟩)
 rw [hb]
 refine ⟨c, e, (0, 0), by simp, by simpa using hl, fun i v hv => ?_, fun _ => ⟨s.fresh, fun o ho => by omega⟩⟩
 obtain ⟨v', a, r⟩ := hr.get hv
 have hi : i < cs.length := (List.getElem?_eq_some_iff.1 hv).1
 rw [List.getElem?_take, if_pos hi, Array.getElem?_toList] at a
 exact ⟨v', by simpa using a, r.mono (Rho.le_upd _ _ hid)⟩
def csplice : Array Value → Nat → List Value → Array Value
 | c, _, [] => c
 | c, o, v :: r => csplice (c.setIfInBounds o v) (o + 1) r
theorem csplice_size : ∀ (vs : List Value) (c : Array Value) (o : Nat), (csplice c o vs).size = c.size
 | [], _, _ => rfl
 | v :: r, c, o => by rw [csplice, csplice_size r]; simp
theorem csplice_get : ∀ (vs : List Value) (c : Array Value) (o i : Nat), o + vs.length ≤ c.size → (csplice c o vs)[i]? = if o ≤ i ∧ i < o + vs.length then vs[i - o]? else c[i]?
 | [], c, o, i, h => by simp [csplice]; omega
 | v :: r, c, o, i, h => by
   simp only [List.length_cons] at h
   rw [csplice, csplice_get r _ _ _ (by simp; omega), Array.getElem?_setIfInBounds]
   by_cases e : o = i
   ·subst e
    rw [if_neg (by omega), if_pos rfl, if_pos (by omega), if_pos (by simp)]
    simp
   ·rw [if_neg e]
    by_cases e2 : o + 1 ≤ i ∧ i < o + 1 + r.length
    ·rw [if_pos e2, if_pos (by simp; omega)]
     rw [show i - o = (i - (o + 1)) + 1 by omega]
     simp
    ·rw [if_neg e2, if_neg (by simp; omega)]
theorem splice_length : ∀ (vs cs : List Value) (o : Nat), (splice cs o vs).length = cs.length
 | [], _, _ => rfl
 | v :: r, cs, o => by rw [splice, splice_length r]; simp
theorem splice_get : ∀ (vs cs : List Value) (o i : Nat), o + vs.length ≤ cs.length → (splice cs o vs)[i]? = if o ≤ i ∧ i < o + vs.length then vs[i - o]? else cs[i]?
 | [], c, o, i, h => by simp [splice]; omega
 | v :: r, c, o, i, h => by
   simp only [List.length_cons] at h
   rw [splice, splice_get r _ _ _ (by simp; omega), List.getElem?_set]
   by_cases e : o = i
   ·subst e
    rw [if_neg (by omega), if_pos rfl, if_pos (by omega), if_pos (by simp)]
    simp
   ·rw [if_neg e]
    by_cases e2 : o + 1 ≤ i ∧ i < o + 1 + r.length
    ·rw [if_pos e2, if_pos (by simp; omega)]
     rw [show i - o = (i - (o + 1)) + 1 by omega]
     simp
    ·rw [if_neg e2, if_neg (by simp; omega)]
theorem setCells_heap (b : Nat) : ∀ (vs : List Value) (o : Nat) (w : World) (c : Array Value) (e : TypeId) (fr : Nat × Nat), w.heap[b]? = some (.cells c e fr) →
  (w.setCells b o vs).heap[b]? = some (.cells (csplice c o vs) e fr)
 | [], _, _, _, _, _, h => h
 | v :: r, o, w, c, e, fr, h => by
   rw [World.setCells, csplice]
   refine setCells_heap b r _ _ _ e fr ?_
   simp only [World.setCell, Array.getElem?_modify, h]
   simp
theorem setCells_other (b : Nat) : ∀ (vs : List Value) (o : Nat) (w : World) (k : Nat), k ≠ b → (w.setCells b o vs).heap[k]? = w.heap[k]?
 | [], _, _, _, _ => rfl
 | v :: r, o, w, k, h => by
   rw [World.setCells, setCells_other b r _ _ _ h]
   simp only [World.setCell, Array.getElem?_modify]
   rw [if_neg (by omega)]
theorem setCells_rest (b : Nat) : ∀ (vs : List Value) (o : Nat) (w : World), (w.setCells b o vs).os = w.os ∧ (w.setCells b o vs).tape = w.tape ∧ (w.setCells b o vs).output = w.output ∧ (w.setCells b o vs).heap.size = w.heap.size
 | [], _, _ => ⟨rfl, rfl, rfl, rfl⟩
 | v :: r, o, w => by
   rw [World.setCells]
   obtain ⟨a, b, c, d⟩ := setCells_rest b r (o + 1) (w.setCell ⟨b, o, none⟩ v)
   exact ⟨a, b, c, d.trans (by simp [World.setCell])⟩
theorem St.change (s : St P X w0 ρ h w) {b cb co : Nat} (hp : ρ b = some (cb, co)) (hX : X cb = none) (B : Blk)
  (hos : w'.os = w.os) (htape : w'.tape = w.tape) (hout : w'.output = w.output) (hsz : w'.heap.size = w.heap.size) (hne : ∀ k, k ≠ cb → w'.heap[k]? = w.heap[k]?)
  (hB : BRel P X ρ w' (cb, co) B)
  (hoth : ∀ b' p', b' ≠ b → ρ b' = some p' → p'.1 = cb → BRel P X ρ w' p' (h b') ∧ sepOk B (cb, co) (h b') p' ∧ sepOk (h b') p' B (cb, co) ∧ ∀ cs lo, h b' ≠ .arr cs true lo)
  (hL : ∀ cs lo, B = .arr cs true lo → ∃ sz c e fr, ρ.lim b = some (cs.length, sz) ∧ w'.heap[cb]? = some (.cells c e fr) ∧ sz ≤ c.size) : St P X w0 ρ (setB h b B) w' := by
 refine ⟨hos.trans s.os, htape.trans s.tape, hout.trans s.output, by rw [hsz]; exact s.size, fun k o hk => ?_, fun i p hi => by rw [hsz]; exact s.dom i p hi, fun i p hi => ?_, fun i j p q hij hi hj hq => ?_, fun i p cs lo hi hb => ?_⟩
 ·rw [hne k (fun e => by subst e; rw [hX] at hk; cases hk)]; exact s.frame k o hk
 ·by_cases e : i = b
  ·subst e; rw [hp] at hi; cases hi; rw [setB_same]; exact hB
  ·rw [setB_ne h B e]
   by_cases e2 : p.1 = cb
   ·exact (hoth i p e hi e2).1
   ·exact (s.blk i p hi).heap p (hne _ e2)
 ·by_cases e : i = b
  ·subst e
   rw [hp] at hi; cases hi
   rw [setB_same, setB_ne h B (Ne.symm hij)]
   exact (hoth j q (Ne.symm hij) hj hq.symm).2.1
  ·rw [setB_ne h B e]
   by_cases e2 : j = b
   ·subst e2
    rw [hp] at hj; cases hj
    rw [setB_same]
    exact (hoth i p e hi hq).2.2.1
   ·rw [setB_ne h B e2]
    exact s.sep i j p q hij hi hj hq
 ·by_cases e : i = b
  ·subst e
   rw [hp] at hi; cases hi
   rw [setB_same] at hb
   exact hL cs lo hb
  ·rw [setB_ne h B e] at hb
   by_cases e2 : p.1 = cb
   ·exact absurd hb ((hoth i p e hi e2).2.2.2 cs lo)
   ·obtain ⟨sz, c, e', fr, h3, h4, h5⟩ := s.lim i p cs lo hi hb
    exact ⟨sz, c, e', fr, h3, by rw [hne _ e2]; exact h4, h5⟩
theorem St.sharers (s : St P X w0 ρ h w) {b cb co : Nat} {cs : List Value} {lo : Nat} (hb : h b = .arr cs true lo) (hp : ρ b = some (cb, co)) {b' : Nat} {p' : Nat × Nat} (hne : b' ≠ b) (hp' : ρ b' = some p') (hq : p'.1 = cb) :
  h b' = .dead ∨ ∃ cs' lo', h b' = .arr cs' false lo' ∧ p'.2 + cs'.length ≤ co + lo := by
 have := s.sep b b' (cb, co) p' (Ne.symm hne) hp hp' hq.symm
 rw [hb] at this
 cases hB : h b' with
 | dead => exact .inl rfl
 | arr c wr l =>
   rw [hB] at this
   cases wr with
   | false => exact .inr ⟨c, l, rfl, this⟩
   | true => exact this.elim
 | loop => rw [hB] at this; exact this.elim
 | defr => rw [hB] at this; exact this.elim
theorem St.write (s : St P X w0 ρ h w) {b cb co off : Nat} {cs : List Value} {lo : Nat} (hb : h b = .arr cs true lo) (hp : ρ b = some (cb, co)) {vs vs' : List Value} (hlo : lo ≤ off) (hl : off + vs.length ≤ cs.length) (hr : VRels ρ vs vs') :
  St P X w0 ρ (setB h b (.arr (splice cs off vs) true lo)) (w.setCells cb (co + off) vs') := by
 have hlen := hr.length
 have hblk := s.blk b _ hp
 rw [hb] at hblk
 obtain ⟨c, e, fr, h1, h2, h3, h4⟩ := hblk
 simp only at h1 h2 h3 h4
 obtain ⟨r1, r2, r3, r4⟩ := setCells_rest cb vs' (co + off) w
 have hheap := setCells_heap cb vs' (co + off) w c e fr h1
 refine s.change hp (h4 trivial).1 _ r1 r2 r3 r4 (fun k hk => setCells_other cb vs' _ w k hk) ?_ ?_ ?_
 ·refine ⟨_, e, fr, hheap, by simp only [splice_length, csplice_size]; exact h2, fun i v hv => ?_, fun _ => ⟨(h4 trivial).1, (h4 trivial).2⟩⟩
  rw [splice_get vs cs off i hl] at hv
  rw [csplice_get vs' c _ _ (by omega)]
  by_cases hi : off ≤ i ∧ i < off + vs.length
  ·rw [if_pos hi] at hv
   obtain ⟨v', a, r⟩ := hr.get hv
   exact ⟨v', by rw [if_pos (by omega), ← a]; congr 1; omega, r⟩
  ·rw [if_neg hi] at hv
   obtain ⟨v', a, r⟩ := h3 i v hv
   exact ⟨v', by rw [if_neg (by omega)]; exact a, r⟩
 ·intro b' p' hne hp' hq
  rcases s.sharers hb hp hne hp' hq with hd | ⟨cs', lo', hd, hle⟩
  ·rw [hd]; exact ⟨trivial, trivial, trivial, fun _ _ hf => by cases hf⟩
  ·rw [hd]
   refine ⟨?_, hle, trivial, fun _ _ hf => by cases hf⟩
   have hblk' := s.blk b' p' hp'
   rw [hd] at hblk'
   obtain ⟨c', e', fr', g1, g2, g3, _⟩ := hblk'
   rw [hq, h1] at g1
   injection g1 with g1
   injection g1 with g1 ge gf
   subst g1
   refine ⟨_, e, fr, by rw [hq]; exact hheap, by rw [csplice_size]; exact g2, fun i v hv => ?_, fun hf => by cases hf⟩
   obtain ⟨v', a, r⟩ := g3 i v hv
   have hi : i < cs'.length := (List.getElem?_eq_some_iff.1 hv).1
   exact ⟨v', by rw [csplice_get vs' c _ _ (by omega), if_neg (by omega)]; exact a, r⟩
 ·intro cs' lo' hq
  cases hq
  obtain ⟨sz, c', e', fr', g1, g2, g3⟩ := s.lim b _ cs lo hp hb
  rw [h1] at g2
  cases g2
  exact ⟨sz, _, e, fr, by rw [splice_length]; exact g1, hheap, by rw [csplice_size]; exact g3⟩
end
end Go.Proofs.Ytggaimcopbjdiaa.AM
namespace Go.Proofs.Ytggaimcopbjdiaa.AM
theorem pureRun_run {α : Type} {P : Program} : ∀ {s : Sem α} {x : α}, pureRun P s = some x → ∀ w, s.run P w = .ok x w
 | .pure a, x, h, w => by simp only [pureRun, Option.some.injEq] at h; subst h; rfl
 | .program k, x, h, w => by rw [pureRun] at h; exact pureRun_run (s := k P) h w
 | .mark _ k, x, h, w => by rw [pureRun] at h; exact pureRun_run (s := k) h w
 | .load .., _, h, _ => by simp [pureRun] at h
 | .store .., _, h, _ => by simp [pureRun] at h
 | .new .., _, h, _ => by simp [pureRun] at h
 | .shape .., _, h, _ => by simp [pureRun] at h
 | .freeze .., _, h, _ => by simp [pureRun] at h
 | .frozen .., _, h, _ => by simp [pureRun] at h
 | .getObj .., _, h, _ => by simp [pureRun] at h
 | .setObj .., _, h, _ => by simp [pureRun] at h
 | .choose .., _, h, _ => by simp [pureRun] at h
 | .sys .., _, h, _ => by simp [pureRun] at h
 | .halt _, _, h, _ => by simp [pureRun] at h
theorem aw_eq (k : IntKind) (n : Int) : aw k n = k.wrap n := by
 cases k <;> simp only [aw, IntKind.wrap, IntKind.bits, IntKind.signed] <;> simp <;> (try split) <;> omega
theorem abits_eq (k : IntKind) (a b : Int) :
  abits .and k a b = k.wrap (BitVec.ofInt k.bits a &&& BitVec.ofInt k.bits b).toNat ∧
  abits .or k a b = k.wrap (BitVec.ofInt k.bits a ||| BitVec.ofInt k.bits b).toNat ∧
  abits .xor k a b = k.wrap (BitVec.ofInt k.bits a ^^^ BitVec.ofInt k.bits b).toNat ∧
  abits .andNot k a b = k.wrap (BitVec.ofInt k.bits a &&& ~~~ BitVec.ofInt k.bits b).toNat := by
 refine ⟨?_, ?_, ?_, ?_⟩ <;> simp only [abits, aw_eq]
section
variable {P : Program}
theorem abin_run {op : BinOp} {t : TypeId} {k k' : IntKind} {a b : Int} {v : Value} (h : abinK op k k' a b = some v) (w : World) :
  (binOp op t (.int k a) (.int k' b)).run P w = .ok v w ∧ flat v = true := by
 obtain ⟨e1, e2, e3, e4⟩ := abits_eq k a b
 cases op <;> simp only [abinK, abinI, ashl, ashr, aquo, arem, someInt, someBool, aw_eq, e1, e2, e3, e4] at h <;>
  (first
   | (split at h <;> (first | (cases h; done) | (injection h with h; subst h; simp_all [binOp, Op.shift, Op.intArith, Op.intDiv, Op.intBits, Op.intCmp, flat, flat1]; done) |
     (split at h <;> (first | (cases h; done) | (injection h with h; subst h; simp_all [binOp, Op.shift, Op.intArith, Op.intDiv, Op.intBits, Op.intCmp, flat, flat1]; done)))))
   | (by_cases hb : b < 0
      ·rw [if_pos hb] at h; cases h
      ·rw [if_neg hb] at h
       injection h with h
       subst h
       simp [binOp, Op.shift, hb, flat, flat1]))
def passG (a b : Value) : Bool := match a, b with | .nilIface, .nilIface => false | .agg _, .agg _ => false | _, _ => true
theorem eqGuard_pass {op : BinOp} {t : TypeId} {x y : Operand} {a b : Value} (h : passG a b = true) (w : World) :
  (eqGuard op t x y a b).run P w = .ok () w := by
 unfold eqGuard
 cases op <;> simp <;> (cases a <;> cases b <;> simp_all [passG])
def Runs (P : Program) (s : Sem Value) (v : Value) : Prop := ∀ w, s.run P w = .ok v w
def Yes (P : Program) (ρv : Operand → Value) (o : Oper) (v : Value) : Prop := ∀ w, (execOp ρv o).run P w = .ok (.value v) w
variable {ρv : Operand → Value} {o : Oper} {ρ : Rho} {V : Type → Type} [Vec V]
theorem yes_binOp {op : BinOp} {t yt : TypeId} {x y : Operand} {v : Value} (ho : o.op = .binOp op t x y yt)
  (hg : passG (ρv x) (ρv y) = true) (hr : Runs P (binOp op t (ρv x) (ρv y)) v) : Yes P ρv o v := fun w => by
 have h1 := eqGuard_pass (P := P) (op := op) (t := t) (x := x) (y := y) hg w
 simp [execOp, ho, h1, hr w]
theorem eqIn_slice1 {t e : TypeId} (hd : P.underlying t = some (.slice e)) (d n c : Nat) (b : Option Addr) (m f : Nat) (w : World) : (Op.equalIn (d + 1) t (.slice none n c) (.slice b m f)).run P w = .ok b.isNone w := by
 simp [Op.equalIn, run_underlying hd]
theorem eqIn_slice2 {t e : TypeId} (hd : P.underlying t = some (.slice e)) (d n c : Nat) (a : Addr) (m f : Nat) (w : World) : (Op.equalIn (d + 1) t (.slice (some a) n c) (.slice none m f)).run P w = .ok false w := by
 simp [Op.equalIn, run_underlying hd]
theorem eqIn_ptr1 {t e : TypeId} (hd : P.underlying t = some (.pointer e)) (d : Nat) (b : Option Addr) (w : World) : (Op.equalIn (d + 1) t (.pointer none) (.pointer b)).run P w = .ok b.isNone w := by
 simp [Op.equalIn, run_underlying hd]
theorem eqIn_ptr2 {t e : TypeId} (hd : P.underlying t = some (.pointer e)) (d : Nat) (a : Addr) (w : World) : (Op.equalIn (d + 1) t (.pointer (some a)) (.pointer none)).run P w = .ok false w := by
 simp [Op.equalIn, run_underlying hd]
theorem eqIn_fn1 {t : TypeId} {ps rs : Array TypeId} {vr : Bool} (hd : P.underlying t = some (.func ps rs vr)) (d : Nat) (w : World) : (Op.equalIn (d + 1) t .nilFunc .nilFunc).run P w = .ok true w := by
 simp [Op.equalIn, run_underlying hd]
theorem eqIn_fn2 {t : TypeId} {ps rs : Array TypeId} {vr : Bool} (hd : P.underlying t = some (.func ps rs vr)) (d : Nat) (f : Fn) (a c : Array Value) (w : World) :
  (Op.equalIn (d + 1) t .nilFunc (.func f a c)).run P w = .ok false w ∧ (Op.equalIn (d + 1) t (.func f a c) .nilFunc).run P w = .ok false w := by
 constructor <;> simp [Op.equalIn, run_underlying hd]
theorem eqIn_bool {t : TypeId} (hd : P.underlying t = some .bool) (d : Nat) (a b : Bool) (w : World) : (Op.equalIn (d + 1) t (.bool a) (.bool b)).run P w = .ok (a == b) w := by
 simp [Op.equalIn, run_underlying hd]
theorem run_of_equal {t : TypeId} {a b : Value} {r : Bool} (hb1 : binOp .eql t a b = (do pure (.bool (← Op.equal t a b)))) (hb2 : binOp .neq t a b = (do pure (.bool (!(← Op.equal t a b)))))
  (h : ∀ w, (Op.equalIn (9999 + 1) t a b).run P w = .ok r w) : Runs P (binOp .eql t a b) (.bool r) ∧ Runs P (binOp .neq t a b) (.bool (!r)) := by
 refine ⟨fun w => ?_, fun w => ?_⟩
 ·rw [hb1]; simp only [Op.equal, Op.maxDepth, Sem.run_bind, h w, Result.andThen_ok, Sem.run_pure]
 ·rw [hb2]; simp only [Op.equal, Op.maxDepth, Sem.run_bind, h w, Result.andThen_ok, Sem.run_pure]
theorem run_eqn_slice {t e : TypeId} (hd : P.underlying t = some (.slice e)) {a b : Value} {r : Bool} (h : aeqn 0 a b = some r) :
  Runs P (binOp .eql t a b) (.bool r) ∧ Runs P (binOp .neq t a b) (.bool (!r)) := by
 cases a with
 | slice x n c =>
   cases b with
   | slice y m d =>
     cases x with
     | none => simp [aeqn] at h; subst h; exact run_of_equal rfl rfl (fun w => eqIn_slice1 hd _ _ _ _ _ _ w)
     | some x =>
       cases y with
       | some y => simp [aeqn] at h
       | none => simp [aeqn] at h; subst h; exact run_of_equal rfl rfl (fun w => eqIn_slice2 hd _ _ _ _ _ _ w)
   | _ => cases x <;> simp [aeqn] at h
 | _ => simp [aeqn] at h
theorem run_eqn_pointer {t e : TypeId} (hd : P.underlying t = some (.pointer e)) {a b : Value} {r : Bool} (h : aeqn 1 a b = some r) :
  Runs P (binOp .eql t a b) (.bool r) ∧ Runs P (binOp .neq t a b) (.bool (!r)) := by
 cases a with
 | pointer x =>
   cases b with
   | pointer y =>
     cases x with
     | none => simp [aeqn] at h; subst h; exact run_of_equal rfl rfl (fun w => eqIn_ptr1 hd _ _ w)
     | some x =>
       cases y with
       | some y => simp [aeqn] at h
       | none => simp [aeqn] at h; subst h; exact run_of_equal rfl rfl (fun w => eqIn_ptr2 hd _ _ w)
   | _ => cases x <;> simp [aeqn] at h
 | _ => simp [aeqn] at h
theorem run_eqn_func {t : TypeId} {ps rs : Array TypeId} {vr : Bool} (hd : P.underlying t = some (.func ps rs vr)) {a b : Value} {r : Bool} (h : aeqn 2 a b = some r) :
  Runs P (binOp .eql t a b) (.bool r) ∧ Runs P (binOp .neq t a b) (.bool (!r)) := by
 cases a <;> simp [aeqn] at h <;> cases b <;> simp at h <;> subst h
 ·exact run_of_equal rfl rfl (fun w => (eqIn_fn2 hd _ _ _ _ w).2)
 ·exact run_of_equal rfl rfl (fun w => (eqIn_fn2 hd _ _ _ _ w).1)
 ·exact run_of_equal rfl rfl (fun w => eqIn_fn1 hd _ w)
theorem run_beq {t : TypeId} (hd : P.underlying t = some .bool) (a b : Bool) :
  Runs P (binOp .eql t (.bool a) (.bool b)) (.bool (a == b)) ∧ Runs P (binOp .neq t (.bool a) (.bool b)) (.bool (!(a == b))) :=
 run_of_equal rfl rfl (fun w => eqIn_bool hd _ _ _ w)
theorem bytes_list (s : ByteArray) : s.toList = bytesOf s := ByteArray.toList_eq s
theorem lessB_eq : ∀ (a b : List UInt8), lessB a b = Op.bytesLess a b
 | a, [] => by cases a <;> rfl
 | [], _ :: _ => rfl
 | a :: x, b :: y => by simp only [lessB, Op.bytesLess, lessB_eq x y]
theorem str_of_bytes (s : ByteArray) : strOf (bytesOf s) = .string s := by
 cases s; rfl
theorem bytes_length (s : ByteArray) : (bytesOf s).length = s.size := Array.length_toList
theorem bytes_append (x y : ByteArray) : bytesOf (x ++ y) = bytesOf x ++ bytesOf y := by simp [bytesOf]
theorem run_sbin {op : BinOp} {t : TypeId} {x y : ByteArray} {v : Value} (h : sbinS op x y = some v) : Runs P (binOp op t (.string x) (.string y)) v ∧ flat v = true := by
 cases op <;> simp only [sbinS] at h <;> (first | (cases h; done) | skip)
 ·split at h
  ·cases h
  ·rename_i hn
   injection h with h
   subst h
   refine ⟨fun w => ?_, rfl⟩
   have e : IntKind.i64.max = 9223372036854775807 := by decide
   rw [← bytes_append, str_of_bytes]
   simp [binOp, Op.stringOp, e]
   omega
 all_goals (injection h with h; subst h; refine ⟨fun w => ?_, rfl⟩; simp [binOp, Op.stringOp, bytes_list, lessB_eq])
theorem withH_some {W : Type → Type} {H H' : AH W} {x : Option Value} {v : Value} (h : withH H x = some (v, H')) : x = some v ∧ H' = H := by
 cases x with
 | none => cases h
 | some u => simp only [withH, Option.some.injEq, Prod.mk.injEq] at h; exact ⟨by rw [h.1], h.2.symm⟩
section
variable {χ α : Type} {ev : χ → Option Value}
theorem x1_some {f : Value → Option α} {x : χ} {r : α} (h : x1 f ev x = some r) : ∃ a, ev x = some a ∧ f a = some r := by
 unfold x1 at h
 split at h
 ·exact ⟨_, ‹_›, h⟩
 ·cases h
theorem x2_some {f : Value → Value → Option α} {x y : χ} {r : α} (h : x2 f ev x y = some r) : ∃ a b, ev x = some a ∧ ev y = some b ∧ f a b = some r := by
 unfold x2 at h
 split at h
 ·split at h
  ·exact ⟨_, _, ‹_›, ‹_›, h⟩
  ·cases h
 ·cases h
theorem xs_some {f : List Value → Option α} {l : List χ} {r : α} (h : xs f ev l = some r) : ∃ a, evs ev l = some a ∧ f a = some r := by
 unfold xs at h
 split at h
 ·exact ⟨_, ‹_›, h⟩
 ·cases h
theorem evs_nil {l : List Value} (h : evs ev [] = some l) : l = [] := by simpa [evs, eq_comm] using h
theorem evs_cons {x : χ} {r : List χ} {l : List Value} (h : evs ev (x :: r) = some l) : ∃ v vs, ev x = some v ∧ evs ev r = some vs ∧ l = v :: vs := by
 unfold evs at h
 split at h
 ·split at h
  ·injection h with h; exact ⟨_, _, ‹_›, ‹_›, h.symm⟩
  ·cases h
 ·cases h
theorem xo_some {x : Option χ} {r : Option Value} (h : xo ev x = some r) : (x = none ∧ r = none) ∨ ∃ y v, x = some y ∧ ev y = some v ∧ r = some v := by
 cases x with
 | none => simp [xo] at h; exact .inl ⟨rfl, h.symm⟩
 | some y =>
   simp only [xo] at h
   cases hy : ev y with
   | none => rw [hy] at h; cases h
   | some v => rw [hy] at h; injection h with h; exact .inr ⟨_, _, rfl, hy, h.symm⟩
end
def ERel (ρ : Rho) (ev : Operand → Option Value) (ρv : Operand → Value) : Prop := ∀ x v, ev x = some v → VRel ρ v (ρv x)
variable {ev : Operand → Option Value}
theorem ERel.evs (he : ERel ρ ev ρv) : ∀ {xs : List Operand} {vs : List Value}, evs ev xs = some vs → VRels ρ vs (xs.map ρv)
 | [], vs, h => by rw [evs_nil h]; exact .nil
 | x :: r, vs, h => by
   obtain ⟨v, l, h1, h2, rfl⟩ := evs_cons h
   exact .cons (he _ _ h1) (ERel.evs he h2)
theorem aeqn_rel {kd : Nat} {a b a' b' : Value} {r : Bool} (ha : VRel ρ a a') (hb : VRel ρ b b') (h : aeqn kd a b = some r) : aeqn kd a' b' = some r := by
 match kd, a, b, h with
 | 0, .slice none n c, .slice y m d, h =>
   obtain ⟨rfl, rfl, rfl⟩ := ha.sl_none
   cases y with
   | none => obtain ⟨rfl, rfl, rfl⟩ := hb.sl_none; exact h
   | some y =>
     rcases hb.sl_any with hsp | ⟨rfl, _, a', c', rfl, _⟩
     ·obtain ⟨b1, o, cb, co, rfl, _, hh⟩ := hb.sl_some hsp
      rcases hh with ⟨c', rfl, _, _⟩ | ⟨rfl, _, o', c', rfl, _⟩ <;> exact h
     ·exact h
 | 0, .slice (some x) n c, .slice none m d, h =>
   obtain ⟨rfl, rfl, rfl⟩ := hb.sl_none
   rcases ha.sl_any with hsp | ⟨rfl, _, a', c', rfl, _⟩
   ·obtain ⟨b1, o, cb, co, rfl, _, hh⟩ := ha.sl_some hsp
    rcases hh with ⟨c', rfl, _, _⟩ | ⟨rfl, _, o', c', rfl, _⟩ <;> exact h
   ·exact h
 | 1, .pointer none, .pointer y, h =>
   rw [ha.ptr_none]
   cases y with
   | none => rw [hb.ptr_none]; exact h
   | some y => obtain ⟨_, _, _, _, rfl, _, rfl⟩ := hb.ptr_some; exact h
 | 1, .pointer (some x), .pointer none, h =>
   rw [hb.ptr_none]
   obtain ⟨_, _, _, _, rfl, _, rfl⟩ := ha.ptr_some; exact h
 | 2, .nilFunc, .nilFunc, h => rw [ha.nilFunc, hb.nilFunc]; exact h
 | 2, .nilFunc, .func f x y, h =>
   rw [ha.nilFunc]
   cases hb with
   | flat hf => simp [flat, flat1] at hf
   | fn _ _ => exact h
   | yld _ => exact h
 | 2, .func f x y, .nilFunc, h =>
   rw [hb.nilFunc]
   cases ha with
   | flat hf => simp [flat, flat1] at hf
   | fn _ _ => exact h
   | yld _ => exact h
theorem abound_some {v v' : Value} {m k : Nat} (h : abound v m = some k) (hr : VRel ρ v v') : ∃ kd i, v' = .int kd i ∧ 0 ≤ i ∧ i ≤ m ∧ k = i.toNat := by
 unfold abound at h
 split at h
 ·split at h
  ·injection h with h
   exact ⟨_, _, hr.int, (‹_ ∧ _›).1, (‹_ ∧ _›).2, h.symm⟩
  ·cases h
 ·cases h
theorem run_bound {kd : IntKind} {i : Int} {y : Nat} {code : BoundsCode} (h0 : 0 ≤ i) (h1 : i ≤ y) (w : World) : (Instr.sliceBound (.int kd i) y code).run P w = .ok i.toNat w := by
 simp [Instr.sliceBound, asIntOf, h0, h1]
inductive ORel (ρ : Rho) : Option Value → Option Value → Prop
 | none : ORel ρ none none
 | some {v v' : Value} (h : VRel ρ v v') : ORel ρ (some v) (some v')
theorem aoptb_some {v v' : Option Value} {d m k : Nat} (h : aoptb v d m = some k) (hr : ORel ρ v v') : (v' = none ∧ k = d) ∨ ∃ kd i, v' = some (.int kd i) ∧ 0 ≤ i ∧ i ≤ m ∧ k = i.toNat := by
 cases hr with
 | none => simp [aoptb] at h; exact .inl ⟨rfl, h.symm⟩
 | some hv => obtain ⟨kd, i, rfl, a, b, c⟩ := abound_some (by simpa [aoptb] using h) hv; exact .inr ⟨kd, i, rfl, a, b, c⟩
theorem run_bounds {isS : Bool} {n c c' m hh l : Nat} {lo hi mx lo' hi' mx' : Option Value} (hc : c ≤ c') (hnone : (mx.isSome && hi.isNone) = false)
  (rl : ORel ρ lo lo') (rh : ORel ρ hi hi') (rm : ORel ρ mx mx') (h1 : aoptb mx c c = some m) (h2 : aoptb hi n m = some hh) (h3 : aoptb lo 0 hh = some l) (w : World) :
  (Instr.sliceBounds isS n c' lo' hi' mx').run P w = .ok (l, hh, if mx.isSome then m else c') w := by
 have e1 := aoptb_some h1 rm
 have e2 := aoptb_some h2 rh
 have e3 := aoptb_some h3 rl
 have hm : mx.isSome = mx'.isSome := by cases rm <;> rfl
 have hh' : hi.isNone = hi'.isNone := by cases rh <;> rfl
 rw [hm] at hnone ⊢
 rw [hh'] at hnone
 rcases e1 with ⟨rfl, rfl⟩ | ⟨kd, i, rfl, a, b, rfl⟩
 ·rcases e2 with ⟨rfl, rfl⟩ | ⟨kd, i, rfl, a, b, rfl⟩
  ·rcases e3 with ⟨rfl, rfl⟩ | ⟨kd3, i3, rfl, a3, b3, rfl⟩
   ·simp [Instr.sliceBounds]
   ·simp [Instr.sliceBounds, run_bound a3 b3]
  ·rcases e3 with ⟨rfl, rfl⟩ | ⟨kd3, i3, rfl, a3, b3, rfl⟩
   ·simp [Instr.sliceBounds, run_bound a (show i ≤ c' by omega)]
   ·simp [Instr.sliceBounds, run_bound a (show i ≤ c' by omega), run_bound a3 b3]
 ·rcases e2 with ⟨rfl, rfl⟩ | ⟨kd2, i2, rfl, a2, b2, rfl⟩
  ·simp at hnone
  ·rcases e3 with ⟨rfl, rfl⟩ | ⟨kd3, i3, rfl, a3, b3, rfl⟩
   ·simp [Instr.sliceBounds, run_bound a (show i ≤ c' by omega), run_bound a2 b2]
   ·simp [Instr.sliceBounds, run_bound a (show i ≤ c' by omega), run_bound a2 b2, run_bound a3 b3]
theorem add_mk (b o n : Nat) : (⟨b, o, none⟩ : Addr).add n = ⟨b, o + n, none⟩ := by unfold Addr.add; split <;> simp_all
theorem aslice_que {size : Nat} {t e : TypeId} (ht : P.underlying t = some (.slice e)) (hs : (P.info? e).isSome = true) (hsz : size = sizeT P e) {b o n ce tt l : Nat} {x' : Value} {lo hi mx lo' hi' mx' : Option Value}
  (hx : VRel ρ (.iface tt (.slice (some ⟨b, o, none⟩) n ce)) x') (rl : ORel ρ lo lo') (rh : ORel ρ hi hi') (rm : ORel ρ mx mx') (h1 : size = 1) (h2 : hi.isNone = true) (h3 : mx.isNone = true) (h : aoptb lo 0 n = some l) : ∃ r', VRel ρ (.iface tt (.slice (some ⟨b, o + l, none⟩) (n - l) ce)) r' ∧ Runs P (Instr.sliceAt t x' lo' hi' mx') r' := by
 obtain ⟨i, hi0⟩ := Option.isSome_iff_exists.1 hs
 have hsz' : i.size = 1 := by simp [← h1, hsz, sizeT, hi0]
 have hln : l ≤ n := by rcases aoptb_some h rl with ⟨_, rfl⟩ | ⟨_, _, _, _, _, rfl⟩ <;> omega
 cases hi with
 | some _ => cases h2
 | none =>
 cases mx with
 | some _ => cases h3
 | none =>
 cases hx with
 | flat h => simp [flat, flat1] at h
 | @que _ _ cb co _ c' sz hρ hn hl hs' =>
   have hb := fun w => run_bounds (P := P) (isS := true) (c := n) (n := n) (m := n) (hh := n) hn.1 rfl rl rh rm rfl rfl h w
   have hrun : ∀ w, (Instr.sliceAt t (.slice (some ⟨cb, co + o, none⟩) n c') lo' hi' mx').run P w = .ok (.slice (if c' = l then some ⟨cb, co + o, none⟩ else some ⟨cb, co + o + l, none⟩) (n - l) (c' - l)) w := fun w => by
    simp [Instr.sliceAt, Instr.slice, run_underlying ht, hb w, sizeOf, typeInfo, hi0, hsz', add_mk]
   refine ⟨_, ?_, hrun⟩
   by_cases hq : c' = l
   ·have hnl : n = l := by omega
    rw [if_pos hq, hq, hnl, Nat.sub_self]
    exact .quez hρ
   ·rw [if_neg hq, Nat.add_assoc]
    exact .que hρ ⟨by omega, by omega⟩ (by rw [hl]; congr 2; omega) (by omega)
 | @quez _ _ cb co o' hρ =>
   have hb := fun w => run_bounds (P := P) (isS := true) (c := 0) (c' := 0) (n := 0) (m := 0) (hh := 0) (Nat.le_refl 0) rfl rl rh rm rfl rfl h w
   have hl0 : l = 0 := by omega
   subst hl0
   refine ⟨.slice (some ⟨cb, o', none⟩) 0 0, .quez hρ, fun w => ?_⟩
   simp [Instr.sliceAt, Instr.slice, run_underlying ht, hb w, sizeOf, typeInfo, hi0, hsz', add_mk]
theorem asliceV_sound {size : Nat} {t e : TypeId} (ht : P.underlying t = some (.slice e)) (hs : (P.info? e).isSome = true) (hpos : 0 < size) (hsz : size = sizeT P e) {x x' r : Value} {lo hi mx lo' hi' mx' : Option Value}
  (hx : VRel ρ x x') (rl : ORel ρ lo lo') (rh : ORel ρ hi hi') (rm : ORel ρ mx mx') (h : asliceV size x lo hi mx = some r) : ∃ r', VRel ρ r r' ∧ Runs P (Instr.sliceAt t x' lo' hi' mx') r' := by
 obtain ⟨i, hi0⟩ := Option.isSome_iff_exists.1 hs
 have hsz' : i.size = size := by simp [hsz, sizeT, hi0]
 unfold asliceV at h
 split at h
 case h_2 =>
  rename_i tt b o n ce
  split at h
  ·rename_i hq
   split at h
   ·rename_i l h3
    injection h with h
    subst h
    exact aslice_que ht hs hsz hx rl rh rm hq.1.1 hq.1.2 hq.2 h3
   ·cases h
  ·cases h
 case h_3 => cases h
 rename_i a n ce
 unfold asliceS at h
 split at h
 ·cases h
 rename_i hnone
 rw [Bool.or_eq_true, not_or, decide_eq_true_eq, Bool.not_eq_true] at hnone
 obtain ⟨hnone, hn⟩ := hnone
 split at h
 ·cases h
 rename_i m h1
 split at h
 ·cases h
 rename_i hh h2
 split at h
 ·cases h
 rename_i l h3
 have e1 := aoptb_some h1 rm
 have e2 := aoptb_some h2 rh
 have e3 := aoptb_some h3 rl
 have hmle : m ≤ ce / 2 := by rcases e1 with ⟨_, rfl⟩ | ⟨_, _, _, _, _, rfl⟩ <;> omega
 have hlh : l ≤ hh := by rcases e3 with ⟨_, rfl⟩ | ⟨_, _, _, _, _, rfl⟩ <;> omega
 have hm0 : mx.isSome = true ∨ m = ce / 2 := by
  cases rm with
  | none => simp [aoptb] at h1; exact .inr h1.symm
  | some _ => exact .inl rfl
 have hhm : hh ≤ m := by
  rcases e2 with ⟨hq, rfl⟩ | ⟨_, _, _, _, _, rfl⟩
  ·rcases hm0 with hm0 | hm0
   ·have : hi.isNone = true := by subst hq; cases rh; rfl
    rw [hm0, this] at hnone; cases hnone
   ·omega
  ·omega
 cases a with
 | none =>
   simp only at h
   split at h
   ·rename_i hz
    injection h with h
    subst h
    obtain ⟨rfl, rfl⟩ := hz
    obtain ⟨_, _, rfl⟩ := hx.sl_none
    refine ⟨_, .flat rfl, fun w => ?_⟩
    have hb := run_bounds (P := P) (isS := true) (Nat.le_refl 0) hnone rl rh rm h1 h2 h3 w
    have hl0 : l = 0 ∧ hh = 0 ∧ (if mx.isSome then m else 0) = 0 := ⟨by omega, by omega, by split <;> omega⟩
    rw [hl0.1, hl0.2.1, hl0.2.2] at hb
    simp [Instr.sliceAt, Instr.slice, run_underlying ht, hb, sizeOf, typeInfo, hi0]
   ·cases h
 | some a =>
   simp only at h
   unfold acut at h
   have zero : ∀ (a' : Addr) (c' : Nat), n = 0 → ce ≤ 1 → (ce = 1 → c' = 0) → (∀ e2 c2, e2 ≤ 1 → (e2 = 1 → c2 = 0) → VRel ρ (.slice (some a) 0 e2) (.slice (some a') 0 c2)) → x' = .slice (some a') 0 c' → ∃ r', VRel ρ r r' ∧ Runs P (Instr.sliceAt t x' lo' hi' mx') r' := by
    intro a' c' hn0 hce hex mk hxv
    subst hn0
    subst hxv
    have hc0 : ce / 2 = 0 := by omega
    have hm : m = 0 := by omega
    have hl : l = 0 := by omega
    have hhh : hh = 0 := by omega
    subst hm; subst hl; subst hhh
    have hcc : ce / 2 ≤ c' := by omega
    have hb := fun w => run_bounds (P := P) (isS := true) hcc hnone rl rh rm h1 h2 h3 w
    have hrun : ∀ w, (Instr.sliceAt t (.slice (some a') 0 c') lo' hi' mx').run P w = .ok (.slice (some a') 0 (if mx.isSome then 0 else c')) w := fun w => by
     simp [Instr.sliceAt, Instr.slice, run_underlying ht, hb w, sizeOf, typeInfo, hi0, hsz', Addr.add]
    refine ⟨_, ?_, hrun⟩
    rw [if_pos rfl] at h
    by_cases he : (if mx.isSome then 1 else ce % 2) = 1
    ·rw [if_pos he] at h
     injection h with h
     subst h
     cases hms : mx.isSome with
     | true => exact mk _ _ (by omega) (fun _ => rfl)
     | false =>
       rw [hms] at he
       simp at he
       exact mk _ _ (by omega) (fun _ => by simp; exact hex (by omega))
    ·rw [if_neg he] at h
     injection h with h
     subst h
     exact mk 0 _ (by omega) (by omega)
   rcases hx.sl_any with hsp | ⟨rfl, hce, a', c', rfl, hex, b, o, s, rfl⟩
   case inr => exact zero a' c' rfl hce hex (fun e2 c2 h1 h2 => .wild h1 h2) rfl
   obtain ⟨b, o, cb, co, rfl, hρ, hv⟩ := hx.sl_some hsp
   rcases hv with ⟨c', rfl, hcc, hex, hlim⟩ | ⟨rfl, hce, o', c', rfl, hex⟩
   ·have hb := fun w => run_bounds (P := P) (isS := true) hcc hnone rl rh rm h1 h2 h3 w
    have hrun : ∀ w, (Instr.sliceAt t (.slice (some ⟨cb, co + o, none⟩) n c') lo' hi' mx').run P w =
      .ok (.slice (if (if mx.isSome then m else c') = l then some ⟨cb, co + o, none⟩ else some ⟨cb, co + o + l * size, none⟩) (hh - l) ((if mx.isSome then m else c') - l)) w := fun w => by
     simp [Instr.sliceAt, Instr.slice, run_underlying ht, hb w, sizeOf, typeInfo, hi0, hsz', add_mk]
    refine ⟨_, ?_, hrun⟩
    by_cases hml : m = l
    ·rw [if_pos hml] at h
     by_cases he : (if mx.isSome then 1 else ce % 2) = 1
     ·rw [if_pos he] at h
      injection h with h
      subst h
      have hm' : (if mx.isSome then m else c') = l := by
       cases hms : mx.isSome with
       | true => simpa using hml
       | false =>
         rw [hms] at he hm0
         simp at he hm0 ⊢
         rw [hex he]; omega
      rw [if_pos hm', hm']
      exact VRel.mk_sl hρ (by omega) (by omega) (by omega)
     ·rw [if_neg he] at h
      split at h
      ·rename_i hhl
       injection h with h
       subst h
       rw [hhl, Nat.sub_self]
       by_cases hq : (if mx.isSome = true then m else c') = l
       ·rw [if_pos hq]; exact .slz (e := 0) hρ (by omega) (by omega)
       ·rw [if_neg hq]; exact .slz (e := 0) hρ (by omega) (by omega)
      ·cases h
    ·rw [if_neg hml] at h
     injection h with h
     subst h
     rw [add_mk]
     cases hms : mx.isSome with
     | true =>
       simp only [if_true]
       rw [if_neg hml, Nat.add_assoc]
       exact .sl hρ (Nat.le_refl _) (by omega) (fun _ => rfl) (by intro hz; cases hz)
     | false =>
       rw [hms] at hm0
       simp at hm0 ⊢
       rw [if_neg (by omega), Nat.add_assoc]
       refine .sl hρ (by omega) (by omega) (fun he => by rw [hex he]; omega) (fun he ho => ?_)
       have hl0 : l = 0 := by
        rcases Nat.eq_zero_or_pos l with h0 | h0
        ·exact h0
        ·have := Nat.mul_pos h0 hpos; omega
       subst hl0
       have := hlim he (by omega)
       rw [hm0]
       simpa using this
   ·exact zero ⟨cb, o', none⟩ c' rfl hce hex (fun e2 c2 h1 h2 => .slz hρ h1 h2) rfl
theorem aslarr_sound {len size : Nat} {t e : TypeId} (ht : P.underlying t = some (.array len e)) (hs : (P.info? e).isSome = true) (hsz : size = sizeT P e) {x x' r : Value} {lo hi mx lo' hi' mx' : Option Value}
  (hx : VRel ρ x x') (rl : ORel ρ lo lo') (rh : ORel ρ hi hi') (rm : ORel ρ mx mx') (h : aslarr len size x lo hi mx = some r) : ∃ r', VRel ρ r r' ∧ Runs P (Instr.sliceAt t x' lo' hi' mx') r' := by
 obtain ⟨i, hi0⟩ := Option.isSome_iff_exists.1 hs
 have hsz' : i.size = size := by simp [hsz, sizeT, hi0]
 unfold aslarr at h
 split at h
 case h_2 => cases h
 rename_i a
 split at h
 ·cases h
 rename_i hnone
 rw [Bool.not_eq_true] at hnone
 split at h
 ·cases h
 rename_i m h1
 split at h
 ·cases h
 rename_i hh h2
 split at h
 ·cases h
 rename_i l h3
 injection h with h
 subst h
 obtain ⟨b, o, cb, co, rfl, hρ, rfl⟩ := hx.ptr_some
 have hm : (if mx.isSome then m else len) = m := by
  cases rm with
  | none => simp [aoptb] at h1; simpa using h1
  | some _ => rfl
 have hb := fun w => run_bounds (P := P) (isS := false) (Nat.le_refl len) hnone rl rh rm h1 h2 h3 w
 rw [hm] at hb
 refine ⟨.slice (if m = l then some ⟨cb, co + o, none⟩ else some ⟨cb, co + o + l * size, none⟩) (hh - l) (m - l), ?_, fun w => ?_⟩
 ·by_cases hml : m = l
  ·rw [if_pos hml, if_pos hml]; exact .sl hρ (Nat.le_refl _) (by omega) (fun _ => rfl) (by intro hz; cases hz)
  ·rw [if_neg hml, if_neg hml, add_mk, Nat.add_assoc]; exact .sl hρ (Nat.le_refl _) (by omega) (fun _ => rfl) (by intro hz; cases hz)
 ·have hc := hb w
  by_cases hml : m = l
  ·simp only [Instr.sliceAt, Sem.run_bind, run_underlying ht, Result.andThen_ok, Instr.sureAddr, Sem.run_pure, hc, sizeOf, typeInfo, program, Sem.run, hi0, hsz', if_pos hml]
  ·simp only [Instr.sliceAt, Sem.run_bind, run_underlying ht, Result.andThen_ok, Instr.sureAddr, Sem.run_pure, hc, sizeOf, typeInfo, program, Sem.run, hi0, hsz', if_neg hml, add_mk]
theorem fScut_sound {t : TypeId} (ht : P.underlying t = some .string) {x x' r : Value} {lo hi lo' hi' : Option Value}
  (hx : VRel ρ x x') (rl : ORel ρ lo lo') (rh : ORel ρ hi hi') (h : fScut x lo hi = some r) : VRel ρ r r ∧ Runs P (Instr.sliceAt t x' lo' hi' none) r := by
 unfold fScut at h
 split at h
 case h_2 => cases h
 rename_i s
 split at h
 ·cases h
 rename_i hh h2
 split at h
 ·cases h
 rename_i l h3
 injection h with h
 subst h
 rw [hx.string]
 have hlen := bytes_length s
 rw [hlen] at h2
 have hb := fun w => run_bounds (P := P) (isS := false) (mx := none) (mx' := none) (m := s.size) (Nat.le_refl s.size) (by simp) rl rh .none (by simp [aoptb]) h2 h3 w
 refine ⟨.flat rfl, fun w => ?_⟩
 have hex : s.extract l hh = ⟨(((bytesOf s).drop l).take (hh - l)).toArray⟩ := by
  apply ByteArray.ext
  rw [ByteArray.data_extract]
  apply Array.ext'
  simp [bytesOf, List.extract_eq_take_drop]
 have hc := hb w
 have hu : ∀ w, (underlying t).run P w = .ok .string w := fun w => run_underlying ht w
 simp only [Instr.sliceAt, Instr.slice, Sem.run_bind, hu, Result.andThen_ok, hc, Sem.run_pure, strOf, hex, Option.isSome_none, Bool.false_eq_true, if_false]
end
end Go.Proofs.Ytggaimcopbjdiaa.AM
namespace Go.Proofs.Ytggaimcopbjdiaa.AM
section
variable {P : Program} {ρv : Operand → Value} {o : Oper} {ρ : Rho} {V : Type → Type} [Vec V] {ev : Operand → Option Value}
theorem yes_v {s : Sem Value} {v : Value} (h : Runs P s v) (he : execOp ρv o = (do pure (.value (← s)))) : Yes P ρv o v := fun w => by
 rw [he]
 simp only [Sem.run_bind, h w, Result.andThen_ok, Sem.run_pure]
theorem foldl_csplice : ∀ (l : List Value) (k off : Nat) (c : Array Value), (l.zipIdx k).foldl (fun cs x => cs.setIfInBounds (off + x.2) x.1) c = csplice c (off + k) l
 | [], _, _, _ => rfl
 | v :: l, k, off, c => by
   rw [List.zipIdx_cons, List.foldl_cons, foldl_csplice l, csplice]
   rfl
theorem csplice_splice {ρ : Rho} : ∀ {vs vs' cs : List Value} {c : Array Value} {o : Nat}, VRels ρ vs vs' → VRels ρ cs c.toList → o + vs.length ≤ cs.length → VRels ρ (splice cs o vs) (csplice c o vs').toList := by
 intro vs vs' cs c o h k hl
 have h1 := h.length
 have h2 : cs.length = c.size := k.length.trans Array.length_toList
 refine VRels.of_get (by rw [splice_length, h2]; exact (Array.length_toList.trans (csplice_size vs' c o)).symm) fun i v hv => ?_
 rw [splice_get _ _ _ _ hl] at hv
 rw [Array.getElem?_toList, csplice_get _ _ _ _ (by omega)]
 by_cases hi : o ≤ i ∧ i < o + vs.length
 ·rw [if_pos hi] at hv
  obtain ⟨v', a, r⟩ := h.get hv
  exact ⟨v', by rw [if_pos (by omega)]; exact a, r⟩
 ·rw [if_neg hi] at hv
  obtain ⟨v', a, r⟩ := k.get hv
  exact ⟨v', by rw [if_neg (by omega), ← Array.getElem?_toList]; exact a, r⟩
inductive Parts (ρ : Rho) (place : Nat → Option (Nat × Nat)) : List (Nat × Nat × Value) → List (Nat × Value) → Prop
 | nil : Parts ρ place [] []
 | cons {off size i : Nat} {v v' : Value} {l : List (Nat × Nat × Value)} {l' : List (Nat × Value)} (hp : place i = some (off, size)) (hv : VRel ρ v v') (t : Parts ρ place l l') : Parts ρ place ((off, size, v) :: l) ((i, v') :: l')
theorem fill_rel {place : Nat → Option (Nat × Nat)} {l : List (Nat × Nat × Value)} {l' : List (Nat × Value)} (h : Parts ρ place l l') : ∀ {cs c : List Value} {cells : Array Value}, VRels ρ cs cells.toList → afill cs l = some c →
  ∃ c', Instr.fill place cells l' = some c' ∧ VRels ρ c c'.toList := by
 induction h with
 | nil => intro cs c cells hr hf; simp [afill] at hf; subst hf; exact ⟨cells, rfl, hr⟩
 | @cons off size i v v' l l' hp hv t ih =>
   intro cs c cells hr hf
   unfold afill at hf
   split at hf
   ·rename_i hc
    have hl := hv.cells.length
    have hz : v'.cells.size = size := by rw [← Array.length_toList, ← hl]; exact hc.1
    have hs : cs.length = cells.size := hr.length.trans Array.length_toList
    obtain ⟨c', h1, h2⟩ := ih (csplice_splice hv.cells hr (by omega)) hf
    refine ⟨c', ?_, h2⟩
    have hfold : v'.cells.zipIdx.foldl (fun cs (c, j) => cs.setIfInBounds (off + j) c) cells = csplice cells off v'.cells.toList := by
     rw [← Array.foldl_toList, Array.toList_zipIdx]
     exact foldl_csplice _ 0 _ _
    unfold Instr.fill
    simp only [hp, hz]
    rw [if_neg (by simp; omega), hfold]
    exact h1
   ·cases hf
theorem mapM_fields (fs : List Field) (h : ∀ f ∈ fs, (P.info? f.type).isSome = true) (w : World) :
  (fs.mapM fun f => (do pure (f.offset, ← sizeOf f.type) : Sem (Nat × Nat))).run P w = .ok (fs.map fun f => (f.offset, sizeT P f.type)) w := by
 induction fs with
 | nil => rfl
 | cons f fs ih =>
   obtain ⟨i, hi⟩ := Option.isSome_iff_exists.1 (h f (by simp))
   rw [List.mapM_cons]
   have ih' := ih (fun g hg => h g (by simp [hg]))
   have h1 : (do pure (f.offset, ← sizeOf f.type) : Sem (Nat × Nat)).run P w = .ok (f.offset, sizeT P f.type) w := by
    simp [sizeOf, typeInfo, hi, sizeT]
   rw [Sem.run_bind, h1, Result.andThen_ok, Sem.run_bind, ih', Result.andThen_ok]
   rfl
theorem zeroT_some {t : TypeId} {cs : List Value} (h : zeroT P t = some cs) : ∃ i z, P.info? t = some i ∧ i.zero = some z ∧ z.cells.toList = cs := by
 unfold zeroT at h
 cases hi : P.info? t with
 | none => rw [hi] at h; cases h
 | some i =>
   rw [hi] at h
   simp only [Option.bind_some] at h
   cases hz : i.zero with
   | none => rw [hz] at h; cases h
   | some z => rw [hz] at h; injection h with h; exact ⟨i, z, rfl, hz, h⟩
theorem run_zeroValue {t : TypeId} {i : TypeInfo} {z : Value} (hi : P.info? t = some i) (hz : i.zero = some z) (w : World) : (zeroValue t).run P w = .ok z w := by
 simp [zeroValue, typeInfo, hi, hz]
theorem xParts_parts (he : ERel ρ ev ρv) (place : Nat → Option (Nat × Nat)) (f : Nat × Operand → Nat × Nat) : ∀ {ps : List (Nat × Operand)} {l : List (Nat × Nat × Value)},
  (∀ p ∈ ps, place p.1 = some (f p)) → xParts ev (ps.map fun p => ((f p).1, (f p).2, p.2)) = some l → Parts ρ place l (ps.map fun p => (p.1, ρv p.2))
 | [], l, _, h => by simp [xParts] at h; subst h; exact .nil
 | p :: ps, l, hp, h => by
   simp only [List.map_cons, xParts] at h
   split at h
   ·rename_i v hv
    split at h
    ·rename_i vs hvs
     injection h with h
     subst h
     exact .cons (hp p (by simp)) (he _ _ hv) (xParts_parts he place f (fun q hq => hp q (by simp [hq])) hvs)
    ·cases h
   ·cases h
theorem xBuild_some {cs : List Value} {ps : List (Nat × Nat × Operand)} {v : Value} (h : xBuild ev cs ps = some v) : ∃ l c, xParts ev ps = some l ∧ afill cs l = some c ∧ v = .agg c.toArray := by
 unfold xBuild at h
 split at h
 ·split at h
  ·injection h with h; exact ⟨_, _, ‹_›, ‹_›, h.symm⟩
  ·cases h
 ·cases h
theorem isAggT_none {t : TypeId} (h : isAggT P t = some none) : ∃ d i, P.underlying t = some d ∧ P.info? t = some i ∧ ∀ w, (isAgg t).run P w = .ok false w := by
 unfold isAggT at h
 cases hd : P.underlying t with
 | none => rw [hd] at h; simp at h
 | some d =>
   cases hi : P.info? t with
   | none => rw [hd, hi] at h; cases d <;> simp at h
   | some i =>
     rw [hd, hi] at h
     refine ⟨d, i, rfl, rfl, fun w => ?_⟩
     unfold isAgg
     rw [Sem.run_bind, run_underlying hd]
     cases d <;> simp_all
theorem isAggT_some {t : TypeId} {n : Nat} (h : isAggT P t = some (some n)) : ∃ d i, P.underlying t = some d ∧ d.isRow = true ∧ P.info? t = some i ∧ i.size = n ∧ ∀ w, (isAgg t).run P w = .ok true w := by
 unfold isAggT at h
 split at h
 ·rename_i fs i hd hi
  injection h with h; injection h with h
  exact ⟨_, i, hd, rfl, hi, h, fun w => by unfold isAgg; rw [Sem.run_bind, run_underlying hd]; rfl⟩
 ·rename_i fs i hd hi
  injection h with h; injection h with h
  exact ⟨_, i, hd, rfl, hi, h, fun w => by unfold isAgg; rw [Sem.run_bind, run_underlying hd]; rfl⟩
 ·injection h with h; cases h
 ·cases h
theorem part_rel {t : TypeId} {n : Option Nat} (hn : isAggT P t = some n) {cs : List Value} {c : Array Value} {off : Nat} {v : Value} (hr : VRels ρ cs c.toList) (h : acells cs n off = some v) :
  ∃ v', VRel ρ v v' ∧ Runs P (part t c off) v' := by
 cases n with
 | none =>
   obtain ⟨d, i, hd, hi, hagg⟩ := isAggT_none hn
   simp only [acells] at h
   obtain ⟨v', hv', r⟩ := hr.get h
   rw [Array.getElem?_toList] at hv'
   exact ⟨v', r, fun w => by simp only [part, Sem.run_bind, hagg w, Result.andThen_ok, Bool.false_eq_true, if_false, hv', Sem.run_pure]⟩
 | some n =>
   obtain ⟨d, i, hd, hrow, hi, hsz, hagg⟩ := isAggT_some hn
   simp only [acells] at h
   split at h
   ·rename_i hl
    injection h with h
    subst h
    refine ⟨.agg (c.extract off (off + n)), .agg ?_, fun w => by simp only [part, Sem.run_bind, hagg w, Result.andThen_ok, if_true, sizeOf, typeInfo, program, Sem.run, hi, Sem.run_pure, hsz]⟩
    have : (c.extract off (off + n)).toList = (c.toList.drop off).take n := by simp [List.extract_eq_take_drop]
    rw [this]
    simpa using (hr.drop off).take n
   ·cases h
theorem build_run_struct {t : TypeId} {fs : Array Field} (hu : P.underlying t = some (.struct fs)) (hfs : ∀ f ∈ fs.toList, (P.info? f.type).isSome = true) {z : Value} {w : World} (hz : (zeroValue t).run P w = .ok z w)
  (ps : Array (Nat × Value)) {c' : Array Value} (hf : Instr.fill (fun i => (fs.map fun f => (f.offset, sizeT P f.type))[i]?) z.cells ps.toList = some c') : (Instr.build t ps).run P w = .ok (.agg c') w := by
 have hm : (fs.mapM fun f => (do pure (f.offset, ← sizeOf f.type) : Sem (Nat × Nat))).run P w = .ok (fs.map fun f => (f.offset, sizeT P f.type)) w := by
  rw [Array.mapM_eq_mapM_toList, Sem.run_map, mapM_fields fs.toList hfs w]
  simp [Result.andThen]
  apply Array.ext'
  simp
 unfold Instr.build
 rw [Sem.run_bind, hz, Result.andThen_ok, Sem.run_bind, run_underlying hu, Result.andThen_ok]
 simp only []
 rw [Sem.run_bind, hm, Result.andThen_ok, hf]
 rfl
theorem build_run_array {t e : TypeId} {n : Nat} (hu : P.underlying t = some (.array n e)) (hi : (P.info? e).isSome = true) {z : Value} {w : World} (hz : (zeroValue t).run P w = .ok z w)
  (ps : Array (Nat × Value)) {c' : Array Value} (hf : Instr.fill (fun i => some (i * sizeT P e, sizeT P e)) z.cells ps.toList = some c') : (Instr.build t ps).run P w = .ok (.agg c') w := by
 obtain ⟨i, hi0⟩ := Option.isSome_iff_exists.1 hi
 have hsz : (sizeOf e).run P w = .ok (sizeT P e) w := by simp [sizeOf, typeInfo, hi0, sizeT]
 unfold Instr.build
 rw [Sem.run_bind, hz, Result.andThen_ok, Sem.run_bind, run_underlying hu, Result.andThen_ok]
 simp only []
 rw [Sem.run_bind, hsz, Result.andThen_ok, hf]
 rfl
variable {H H' : AH V} {v : Value}
theorem build_sound (he : ERel ρ ev ρv) {t : TypeId} {ps : Array (Nat × Operand)} {cs : List Value} (f : Nat × Operand → Nat × Nat) (place : Nat → Option (Nat × Nat)) (hz : zeroT P t = some cs) (hfl : cs.all flat1 = true)
  (hpl : ∀ p ∈ ps.toList, place p.1 = some (f p))
  (hrun : ∀ (z : Value) (w : World), (zeroValue t).run P w = .ok z w → ∀ c', Instr.fill place z.cells (ps.toList.map fun p => (p.1, ρv p.2)) = some c' → (Instr.build t (ps.map fun p => (p.1, ρv p.2))).run P w = .ok (.agg c') w)
  (h1 : xBuild ev cs (ps.toList.map fun p => ((f p).1, (f p).2, p.2)) = some v) : ∃ v', VRel ρ v v' ∧ Runs P (Instr.build t (ps.map fun p => (p.1, ρv p.2))) v' := by
 obtain ⟨l, c, hl, hc, rfl⟩ := xBuild_some h1
 obtain ⟨i, z, hi, hz0, hzc⟩ := zeroT_some hz
 obtain ⟨c', hf, hr⟩ := fill_rel (xParts_parts he place f hpl hl) (cs := cs) (cells := z.cells) (by rw [hzc]; exact VRels.flat fun u hu => flat_of_flat1 (List.all_eq_true.1 hfl u hu)) hc
 exact ⟨_, .agg (by simpa using hr), fun w => hrun z w (run_zeroValue hi hz0 w) c' hf⟩
theorem flatSem_exec {fo : FOp} {l : List Value} {v : Value} (h : aflat P fo l = some v) : l.all flat = true ∧ flat v = true ∧ Runs P (flatSem fo l) v := by
 unfold aflat at h
 split at h
 ·rename_i hall
  split at h
  ·rename_i u hu
   split at h
   ·rename_i hf
    injection h with h
    subst h
    exact ⟨hall, hf, fun w => pureRun_run hu w⟩
   ·cases h
  ·cases h
 ·cases h
def isPure {χ : Type} : AOp χ → Bool
 | .bad | .load .. | .store .. | .alloc .. | .box .. | .mkarr .. | .mkslice .. | .append .. | .copy .. | .call .. | .xt .. => false
 | _ => true
variable {H H' : AH V} {v : Value} {call : Value → List Value → AH V → Option (Value × AH V)} {share : Bool}
theorem orel (he : ERel ρ ev ρv) {x : Option Operand} {r : Option Value} (h : xo ev x = some r) : ORel ρ r (x.map ρv) := by
 rcases xo_some h with ⟨rfl, rfl⟩ | ⟨y, u, rfl, h1, rfl⟩
 ·exact .none
 ·exact .some (he _ _ h1)
theorem guard_of_aeqn {kd : Nat} {a b : Value} {r : Bool} (h : aeqn kd a b = some r) : passG a b = true := by
 match kd, a, b, h with
 | 0, .slice none _ _, .slice _ _ _, _ => rfl
 | 0, .slice (some _) _ _, .slice none _ _, _ => rfl
 | 1, .pointer none, .pointer _, _ => rfl
 | 1, .pointer (some _), .pointer none, _ => rfl
 | 2, .nilFunc, .nilFunc, _ => rfl
 | 2, .nilFunc, .func _ _ _, _ => rfl
 | 2, .func _ _ _, .nilFunc, _ => rfl
theorem pure_binOp (he : ERel ρ ev ρv) {op : BinOp} {t yt type : TypeId} {x y : Operand} {dst : Option Tmp} {pos : String} {after : Array Edge} {guard : Option (Nat × Bool)}
  (hp : isPure (compileOp P share ⟨dst, .binOp op t x y yt, type, pos, after, guard⟩) = true) (h : aexec P call (compileOp P share ⟨dst, .binOp op t x y yt, type, pos, after, guard⟩) ev H = some (v, H')) :
  H' = H ∧ ∃ v', VRel ρ v v' ∧ Yes P ρv ⟨dst, .binOp op t x y yt, type, pos, after, guard⟩ v' := by
 simp only [compileOp] at hp h
 split at hp
 ·rename_i k hu
  rw [hu] at h
  obtain ⟨h1, h2⟩ := withH_some h
  obtain ⟨a, b, ha, hb, hf⟩ := x2_some h1
  unfold abin at hf
  split at hf
  ·have ea := (he _ _ ha).int
   have eb := (he _ _ hb).int
   obtain ⟨_, hfl⟩ := abin_run (P := P) (t := t) hf default
   exact ⟨h2, v, .flat hfl, yes_binOp rfl (by rw [ea, eb]; rfl) (fun w => by rw [ea, eb]; exact (abin_run hf w).1)⟩
  ·cases hf
 ·rename_i hu
  rw [hu] at h
  obtain ⟨h1, h2⟩ := withH_some h
  obtain ⟨a, b, ha, hb, hf⟩ := x2_some h1
  unfold fSbin at hf
  split at hf
  ·have ea := (he _ _ ha).string
   have eb := (he _ _ hb).string
   obtain ⟨hr, hfl⟩ := run_sbin (P := P) (t := t) hf
   exact ⟨h2, v, .flat hfl, yes_binOp rfl (by rw [ea, eb]; rfl) (by rw [ea, eb]; exact hr)⟩
  ·cases hf
 ·rename_i hu
  rw [hu] at h
  have key : ∀ neg, withH H (x2 (fBeq neg) ev x y) = some (v, H') → H' = H ∧ ∃ a b : Bool, ρv x = .bool a ∧ ρv y = .bool b ∧ v = .bool ((a == b) != neg) := by
   intro neg h
   obtain ⟨h1, h2⟩ := withH_some h
   obtain ⟨a, b, ha, hb, hf⟩ := x2_some h1
   unfold fBeq at hf
   split at hf
   ·injection hf with hf
    exact ⟨h2, _, _, (he _ _ ha).bool, (he _ _ hb).bool, hf.symm⟩
   ·cases hf
  split at hp
  ·obtain ⟨h2, a, b, ea, eb, rfl⟩ := key false h
   exact ⟨h2, _, .flat rfl, yes_binOp rfl (by rw [ea, eb]; rfl) (by rw [ea, eb]; simpa using (run_beq hu a b).1)⟩
  ·obtain ⟨h2, a, b, ea, eb, rfl⟩ := key true h
   exact ⟨h2, _, .flat rfl, yes_binOp rfl (by rw [ea, eb]; rfl) (by rw [ea, eb]; simpa using (run_beq hu a b).2)⟩
  ·simp [isPure] at hp
 ·rename_i e hu
  rw [hu] at h
  have key : ∀ neg, withH H (x2 (fEqn 0 neg) ev x y) = some (v, H') → H' = H ∧ ∃ r, aeqn 0 (ρv x) (ρv y) = some r ∧ v = .bool (r != neg) := by
   intro neg h
   obtain ⟨h1, h2⟩ := withH_some h
   obtain ⟨a, b, ha, hb, hf⟩ := x2_some h1
   unfold fEqn at hf
   split at hf
   ·injection hf with hf
    exact ⟨h2, _, aeqn_rel (he _ _ ha) (he _ _ hb) (by assumption), hf.symm⟩
   ·cases hf
  have guard_ok := fun r (hr : aeqn 0 (ρv x) (ρv y) = some r) => guard_of_aeqn hr
  split at hp
  ·obtain ⟨h2, r, hr, rfl⟩ := key false h
   exact ⟨h2, _, .flat rfl, yes_binOp rfl (guard_ok r hr) (by simpa using (run_eqn_slice hu hr).1)⟩
  ·obtain ⟨h2, r, hr, rfl⟩ := key true h
   exact ⟨h2, _, .flat rfl, yes_binOp rfl (guard_ok r hr) (by simpa using (run_eqn_slice hu hr).2)⟩
  ·simp [isPure] at hp
 ·rename_i e hu
  rw [hu] at h
  have key : ∀ neg, withH H (x2 (fEqn 1 neg) ev x y) = some (v, H') → H' = H ∧ ∃ r, aeqn 1 (ρv x) (ρv y) = some r ∧ v = .bool (r != neg) := by
   intro neg h
   obtain ⟨h1, h2⟩ := withH_some h
   obtain ⟨a, b, ha, hb, hf⟩ := x2_some h1
   unfold fEqn at hf
   split at hf
   ·injection hf with hf
    exact ⟨h2, _, aeqn_rel (he _ _ ha) (he _ _ hb) (by assumption), hf.symm⟩
   ·cases hf
  have guard_ok := fun r (hr : aeqn 1 (ρv x) (ρv y) = some r) => guard_of_aeqn hr
  split at hp
  ·obtain ⟨h2, r, hr, rfl⟩ := key false h
   exact ⟨h2, _, .flat rfl, yes_binOp rfl (guard_ok r hr) (by simpa using (run_eqn_pointer hu hr).1)⟩
  ·obtain ⟨h2, r, hr, rfl⟩ := key true h
   exact ⟨h2, _, .flat rfl, yes_binOp rfl (guard_ok r hr) (by simpa using (run_eqn_pointer hu hr).2)⟩
  ·simp [isPure] at hp
 ·rename_i ps rs vr hu
  rw [hu] at h
  have key : ∀ neg, withH H (x2 (fEqn 2 neg) ev x y) = some (v, H') → H' = H ∧ ∃ r, aeqn 2 (ρv x) (ρv y) = some r ∧ v = .bool (r != neg) := by
   intro neg h
   obtain ⟨h1, h2⟩ := withH_some h
   obtain ⟨a, b, ha, hb, hf⟩ := x2_some h1
   unfold fEqn at hf
   split at hf
   ·injection hf with hf
    exact ⟨h2, _, aeqn_rel (he _ _ ha) (he _ _ hb) (by assumption), hf.symm⟩
   ·cases hf
  have guard_ok := fun r (hr : aeqn 2 (ρv x) (ρv y) = some r) => guard_of_aeqn hr
  split at hp
  ·obtain ⟨h2, r, hr, rfl⟩ := key false h
   exact ⟨h2, _, .flat rfl, yes_binOp rfl (guard_ok r hr) (by simpa using (run_eqn_func hu hr).1)⟩
  ·obtain ⟨h2, r, hr, rfl⟩ := key true h
   exact ⟨h2, _, .flat rfl, yes_binOp rfl (guard_ok r hr) (by simpa using (run_eqn_func hu hr).2)⟩
  ·simp [isPure] at hp
 ·rename_i d hd hd1 hd2 hd3 hd4 hd5 hu
  have hq : compileOp P share ⟨dst, .binOp op t x y yt, type, pos, after, guard⟩ = .flat (.bin op t x y) [x, y] := by
   simp only [compileOp, hu]
  simp only [compileOp] at hq
  rw [hq] at h
  obtain ⟨h1, h2⟩ := withH_some h
  obtain ⟨l, hl, hf⟩ := xs_some h1
  obtain ⟨a, r1, ha, hr1, rfl⟩ := evs_cons hl
  obtain ⟨b, r2, hb, hr2, rfl⟩ := evs_cons hr1
  obtain rfl := evs_nil hr2
  obtain ⟨hall, hfl, hrun⟩ := flatSem_exec hf
  simp only [List.all_cons, Bool.and_eq_true] at hall
  have ea := (he _ _ ha).of_flat hall.1
  have eb := (he _ _ hb).of_flat hall.2.1
  refine ⟨h2, v, .flat hfl, fun w => ?_⟩
  have := hrun w
  simp only [flatSem] at this
  simp only [execOp, ea, eb, Sem.run_bind] at this ⊢
  rw [this]
  rfl
 ·simp [isPure] at hp
theorem exec_builtin {b : Builtin} {args : Array Operand} {argTypes : Array TypeId} {type : TypeId} {dst : Option Tmp} {pos : String} {after : Array Edge} {guard : Option (Nat × Bool)} {s : Sem Value}
  (h : ∀ consts, builtin b argTypes type consts (args.map ρv) = (do pure (.value (← s)))) :
  execOp ρv ⟨dst, .call ⟨.builtin b, args, argTypes⟩, type, pos, after, guard⟩ = (do pure (.value (← s))) := by
 simp only [execOp, resolve]
 show (do let d ← (pure _ : Sem Deferred); invoke d.target d.args) = _
 exact h _
theorem pure_builtin (he : ERel ρ ev ρv) {b : Builtin} {args : Array Operand} {argTypes : Array TypeId} {type : TypeId} {dst : Option Tmp} {pos : String} {after : Array Edge} {guard : Option (Nat × Bool)}
  (hp : isPure (compileOp P share ⟨dst, .call ⟨.builtin b, args, argTypes⟩, type, pos, after, guard⟩) = true) (h : aexec P call (compileOp P share ⟨dst, .call ⟨.builtin b, args, argTypes⟩, type, pos, after, guard⟩) ev H = some (v, H')) :
  H' = H ∧ ∃ v', VRel ρ v v' ∧ Yes P ρv ⟨dst, .call ⟨.builtin b, args, argTypes⟩, type, pos, after, guard⟩ v' := by
 have hargs : ∀ l : List Operand, args.toList = l → args.map ρv = (l.map ρv).toArray := fun l hl => by
  apply Array.ext'; simp [hl]
 have htys : ∀ l : List TypeId, argTypes.toList = l → argTypes = l.toArray := fun l hl => by
  apply Array.ext'; simp [hl]
 simp only [compileOp] at hp h
 revert hp h
 split
 ·rename_i x t ha ht
  have e1 := hargs _ ha
  have e2 := htys _ ht
  split
  ·rename_i e hu
   intro hp h
   obtain ⟨h1, h2⟩ := withH_some h
   obtain ⟨a, hx, hf⟩ := x1_some h1
   unfold fLen at hf
   split at hf
   ·rename_i ad n ce
    injection hf with hf
    subst hf
    have hv : ∃ ad' c', ρv x = .slice ad' n c' := by
     have hr := he _ _ hx
     cases ad with
     | none => obtain ⟨rfl, rfl, hv⟩ := hr.sl_none; exact ⟨_, _, hv⟩
     | some ad =>
       rcases hr.sl_any with hsp | ⟨rfl, _, a', c', hv, _⟩
       case inr => exact ⟨_, _, hv⟩
       obtain ⟨b, o, cb, co, rfl, hρ, hv⟩ := hr.sl_some hsp
       rcases hv with ⟨c', hv, _⟩ | ⟨rfl, _, o', c', hv, _⟩
       ·exact ⟨_, _, hv⟩
       ·exact ⟨_, _, hv⟩
    obtain ⟨ad', c', hv⟩ := hv
    refine ⟨h2, _, .flat rfl, yes_v (s := Builtin.len_ argTypes type (args.map ρv)) (fun w => ?_) (exec_builtin fun _ => rfl)⟩
    rw [e1, e2]
    simp [Builtin.len_, hv, run_underlying hu, goInt]
   ·rename_i tt b o n ce
    injection hf with hf
    subst hf
    have hv : ∃ ad' c', ρv x = .slice ad' n c' := by
     obtain ⟨_, _, cb, co, _, hv⟩ := (he _ _ hx).que_inv
     rcases hv with ⟨c', sz, hv, _⟩ | ⟨rfl, o', hv⟩
     ·exact ⟨_, _, hv⟩
     ·exact ⟨_, _, hv⟩
    obtain ⟨ad', c', hv⟩ := hv
    refine ⟨h2, _, .flat rfl, yes_v (s := Builtin.len_ argTypes type (args.map ρv)) (fun w => ?_) (exec_builtin fun _ => rfl)⟩
    rw [e1, e2]
    simp [Builtin.len_, hv, run_underlying hu, goInt]
   ·cases hf
  ·rename_i hu
   intro hp h
   obtain ⟨h1, h2⟩ := withH_some h
   obtain ⟨a, hx, hf⟩ := x1_some h1
   unfold fSlen at hf
   split at hf
   ·injection hf with hf
    subst hf
    have hv := (he _ _ hx).string
    refine ⟨h2, _, .flat rfl, yes_v (s := Builtin.len_ argTypes type (args.map ρv)) (fun w => ?_) (exec_builtin fun _ => rfl)⟩
    rw [e1, e2, bytes_length]
    simp [Builtin.len_, hv, run_underlying hu, goInt]
   ·cases hf
  ·intro hp h; simp [isPure] at hp
 ·intro hp h
  obtain ⟨h1, h2⟩ := withH_some h
  obtain ⟨l, hl, hf⟩ := xs_some h1
  obtain ⟨hall, hfl, hrun⟩ := flatSem_exec hf
  have ea := (he.evs hl).of_flat hall
  refine ⟨h2, v, .flat hfl, yes_v (s := Builtin.min_ argTypes type (args.map ρv)) ?_ (exec_builtin fun _ => rfl)⟩
  rw [hargs _ rfl, ea]
  exact hrun
 ·intro hp h
  obtain ⟨h1, h2⟩ := withH_some h
  obtain ⟨l, hl, hf⟩ := xs_some h1
  obtain ⟨hall, hfl, hrun⟩ := flatSem_exec hf
  have ea := (he.evs hl).of_flat hall
  refine ⟨h2, v, .flat hfl, yes_v (s := Builtin.max_ argTypes type (args.map ρv)) ?_ (exec_builtin fun _ => rfl)⟩
  rw [hargs _ rfl, ea]
  exact hrun
 ·intro hp h
  obtain ⟨h1, h2⟩ := withH_some h
  obtain ⟨l, hl, hf⟩ := xs_some h1
  obtain ⟨hall, hfl, hrun⟩ := flatSem_exec hf
  have ea := (he.evs hl).of_flat hall
  refine ⟨h2, v, .flat hfl, yes_v (s := Builtin.complex_ argTypes type (args.map ρv)) ?_ (exec_builtin fun _ => rfl)⟩
  rw [hargs _ rfl, ea]
  exact hrun
 ·intro hp h
  obtain ⟨h1, h2⟩ := withH_some h
  obtain ⟨l, hl, hf⟩ := xs_some h1
  obtain ⟨hall, hfl, hrun⟩ := flatSem_exec hf
  have ea := (he.evs hl).of_flat hall
  refine ⟨h2, v, .flat hfl, yes_v (s := Builtin.real_ argTypes type (args.map ρv)) ?_ (exec_builtin fun _ => rfl)⟩
  rw [hargs _ rfl, ea]
  exact hrun
 ·intro hp h
  obtain ⟨h1, h2⟩ := withH_some h
  obtain ⟨l, hl, hf⟩ := xs_some h1
  obtain ⟨hall, hfl, hrun⟩ := flatSem_exec hf
  have ea := (he.evs hl).of_flat hall
  refine ⟨h2, v, .flat hfl, yes_v (s := Builtin.imag_ argTypes type (args.map ρv)) ?_ (exec_builtin fun _ => rfl)⟩
  rw [hargs _ rfl, ea]
  exact hrun
 ·(repeat' split) <;> (intro hp h; simp [isPure] at hp)
 ·split
  ·split
   ·intro hp h; simp [isPure] at hp
   ·intro hp h; simp [isPure] at hp
  ·intro hp h; simp [isPure] at hp
 ·intro hp h; simp [isPure] at hp
theorem pure_sound (he : ERel ρ ev ρv) (hp : isPure (compileOp P share o) = true) (h : aexec P call (compileOp P share o) ev H = some (v, H')) : H' = H ∧ ∃ v', VRel ρ v v' ∧ Yes P ρv o v' := by
 obtain ⟨dst, op, type, pos, after, guard⟩ := o
 cases op <;> simp only [compileOp] at hp h <;> (try (simp [isPure] at hp; done)) <;> (try (exfalso; revert hp; (repeat' split) <;> simp [isPure]; done))
 case move x =>
  obtain ⟨h1, h2⟩ := withH_some h
  exact ⟨h2, _, he _ _ h1, fun w => rfl⟩
 case assign x =>
  obtain ⟨h1, h2⟩ := withH_some h
  exact ⟨h2, _, he _ _ h1, fun w => rfl⟩
 case pick c a b =>
  obtain ⟨h1, h2⟩ := withH_some h
  unfold xPick at h1
  split at h1
  ·rename_i t hc
   have ht := (he _ _ hc).bool
   refine ⟨h2, ?_⟩
   cases t with
   | true => exact ⟨_, he _ _ h1, fun w => by simp [execOp, ht, asBool]⟩
   | false => exact ⟨_, he _ _ h1, fun w => by simp [execOp, ht, asBool]⟩
  ·cases h1
 case build t ps =>
  split at hp
  ·rename_i fs cs hu hz
   rw [hu, hz] at h
   simp only at h hp
   split at hp
   ·rename_i hc
    rw [if_pos hc] at h
    simp only [Bool.and_eq_true, List.all_eq_true, decide_eq_true_eq] at hc
    obtain ⟨⟨hc1, hc2⟩, hc3⟩ := hc
    obtain ⟨h1, h2⟩ := withH_some h
    obtain ⟨v', hr, hv⟩ := build_sound (P := P) he (t := t) (ps := ps) (cs := cs) (fun p => (((fs[p.1]?).map (·.offset)).getD 0, sizeT P (((fs[p.1]?).map (·.type)).getD 0))) (fun i => (fs.map fun f => (f.offset, sizeT P f.type))[i]?) hz (List.all_eq_true.2 hc1)
     (fun p hp => by have := hc3 p hp; simp [Array.getElem?_eq_getElem this])
     (fun z w hzw c' hf => build_run_struct hu hc2 hzw _ (by simpa using hf)) h1
    exact ⟨h2, v', hr, yes_v hv rfl⟩
   ·simp [isPure] at hp
  ·rename_i n e cs hu hz
   rw [hu, hz] at h
   simp only at h hp
   split at hp
   ·rename_i hc
    rw [if_pos hc] at h
    rw [Bool.and_eq_true] at hc
    obtain ⟨h1, h2⟩ := withH_some h
    obtain ⟨v', hr, hv⟩ := build_sound (P := P) he (t := t) (ps := ps) (cs := cs) (fun p => (p.1 * sizeT P e, sizeT P e)) (fun i => some (i * sizeT P e, sizeT P e)) hz hc.1
     (fun p hp => rfl)
     (fun z w hzw c' hf => build_run_array hu hc.2 hzw _ (by simpa using hf)) h1
    exact ⟨h2, v', hr, yes_v hv rfl⟩
   ·simp [isPure] at hp
  ·simp [isPure] at hp
 case binOp op t x y yt => exact pure_binOp (share := share) he hp h
 case unOp op t x =>
  split at h
  ·obtain ⟨h1, h2⟩ := withH_some h
   obtain ⟨a, ha, hf⟩ := x1_some h1
   unfold fNot at hf
   split at hf
   ·injection hf with hf
    subst hf
    have ea := (he _ _ ha).bool
    exact ⟨h2, _, .flat rfl, yes_v (s := Op.unary .not (ρv x)) (fun w => by rw [ea]; rfl) rfl⟩
   ·cases hf
  ·obtain ⟨h1, h2⟩ := withH_some h
   obtain ⟨l, hl, hf⟩ := xs_some h1
   obtain ⟨a, r1, ha, hr1, rfl⟩ := evs_cons hl
   obtain rfl := evs_nil hr1
   obtain ⟨hall, hfl, hrun⟩ := flatSem_exec hf
   simp only [List.all_cons, Bool.and_eq_true] at hall
   have ea := (he _ _ ha).of_flat hall.1
   exact ⟨h2, v, .flat hfl, yes_v (s := Op.unary op (ρv x)) (by rw [ea]; exact hrun) rfl⟩
 case convert s d x =>
  split at h
  ·rename_i k1 k hs hd
   obtain ⟨h1, h2⟩ := withH_some h
   obtain ⟨a, ha, hf⟩ := x1_some h1
   unfold fConv at hf
   split at hf
   ·injection hf with hf
    subst hf
    have ea := (he _ _ ha).int
    refine ⟨h2, _, .flat rfl, yes_v (s := convert s d (ρv x)) (fun w => ?_) rfl⟩
    rw [ea, aw_eq]
    simp [convert, run_underlying hs, run_underlying hd, Conv.intToInt]
   ·cases hf
  ·cases h
  ·cases h
  ·cases h
  ·cases h
  ·obtain ⟨h1, h2⟩ := withH_some h
   obtain ⟨l, hl, hf⟩ := xs_some h1
   obtain ⟨a, r1, ha, hr1, rfl⟩ := evs_cons hl
   obtain rfl := evs_nil hr1
   obtain ⟨hall, hfl, hrun⟩ := flatSem_exec hf
   simp only [List.all_cons, Bool.and_eq_true] at hall
   have ea := (he _ _ ha).of_flat hall.1
   exact ⟨h2, v, .flat hfl, yes_v (s := convert s d (ρv x)) (by rw [ea]; exact hrun) rfl⟩
 case slice t x lo hi mx =>
  split at hp
  ·rename_i e hu
   rw [hu] at h
   simp only at h
   split at hp
   ·rename_i hi0
    rw [if_pos hi0] at h
    rw [Bool.and_eq_true, decide_eq_true_eq] at hi0
    obtain ⟨h1, h2⟩ := withH_some h
    unfold xCut at h1
    split at h1
    ·obtain ⟨v', hr, hv⟩ := asliceV_sound (P := P) hu hi0.1 hi0.2 rfl (he _ _ (by assumption)) (orel he (by assumption)) (orel he (by assumption)) (orel he (by assumption)) h1
     exact ⟨h2, v', hr, yes_v hv rfl⟩
    ·cases h1
   ·simp [isPure] at hp
  ·rename_i n e hu
   rw [hu] at h
   simp only at h
   split at hp
   ·rename_i hi0
    rw [if_pos hi0] at h
    obtain ⟨h1, h2⟩ := withH_some h
    unfold xCut at h1
    split at h1
    ·obtain ⟨v', hr, hv⟩ := aslarr_sound (P := P) hu hi0 rfl (he _ _ (by assumption)) (orel he (by assumption)) (orel he (by assumption)) (orel he (by assumption)) h1
     exact ⟨h2, v', hr, yes_v hv rfl⟩
    ·cases h1
   ·simp [isPure] at hp
  ·rename_i hu
   rw [hu] at h
   simp only at h
   split at hp
   ·simp [isPure] at hp
   ·rename_i hm
    rw [if_neg hm] at h
    obtain ⟨h1, h2⟩ := withH_some h
    unfold xScut at h1
    split at h1
    ·obtain ⟨hr, hv⟩ := fScut_sound (P := P) hu (he _ _ (by assumption)) (orel he (by assumption)) (orel he (by assumption)) h1
     refine ⟨h2, v, hr, yes_v hv ?_⟩
     have : mx = none := by cases mx with | none => rfl | some _ => simp at hm
     subst this
     rfl
    ·cases h1
  ·simp [isPure] at hp
 case fieldAddr s x f =>
  split at hp
  ·rename_i fs hu
   rw [hu] at h
   simp only at h
   split at hp
   ·rename_i fd hfd
    rw [hfd] at h
    simp only at h
    split at hp
    ·simp [isPure] at hp
    ·rename_i hz
     rw [if_neg hz] at h
     obtain ⟨h1, h2⟩ := withH_some h
     obtain ⟨a, ha, hf⟩ := x1_some h1
     unfold fFaddr at hf
     split at hf
     ·injection hf with hf
      subst hf
      obtain ⟨b, o, cb, co, rfl, hρ, hv⟩ := (he _ _ ha).ptr_some
      refine ⟨h2, .pointer (some ⟨cb, co + o + fd.offset, none⟩), ?_, yes_v (s := Instr.fieldAt s (ρv x) f) (fun w => ?_) rfl⟩
      ·rw [add_mk, Nat.add_assoc]; exact .ptr hρ
      ·have hsz : (sizeOf fd.type).run P w = .ok (sizeT P fd.type) w := by
        cases hi : P.info? fd.type with
        | none => simp [sizeT, hi] at hz
        | some i => simp [sizeOf, typeInfo, hi, sizeT]
       rw [hv]
       simp only [Instr.fieldAt, Sem.run_bind, run_underlying hu, Result.andThen_ok, hfd, Instr.sureAddr, Sem.run_pure, fieldPlace, hsz, if_neg hz, add_mk]
     ·cases hf
   ·simp [isPure] at hp
  ·simp [isPure] at hp
 case field s x f =>
  split at hp
  ·rename_i fs hu
   rw [hu] at h
   simp only at h
   split at hp
   ·rename_i fd hfd
    rw [hfd] at h
    simp only at h
    split at hp
    ·rename_i n hn
     rw [hn] at h
     obtain ⟨h1, h2⟩ := withH_some h
     obtain ⟨a, ha, hf⟩ := x1_some h1
     unfold fFld at hf
     split at hf
     ·obtain ⟨c, hv, hr⟩ := (he _ _ ha).agg_inv
      obtain ⟨v', hr', hrun⟩ := part_rel (P := P) hn hr hf
      refine ⟨h2, v', hr', yes_v (s := Instr.field s (ρv x) f) (fun w => ?_) rfl⟩
      rw [hv]
      simp only [Instr.field, Sem.run_bind, run_underlying hu, Result.andThen_ok, hfd, asAgg, Sem.run_pure, hrun w]
     ·cases hf
    ·simp [isPure] at hp
   ·simp [isPure] at hp
  ·simp [isPure] at hp
 case indexAddr t x i =>
  split at hp
  ·rename_i e hu
   rw [hu] at h
   simp only at h
   split at hp
   ·rename_i hi0
    rw [if_pos hi0] at h
    obtain ⟨h1, h2⟩ := withH_some h
    obtain ⟨a, b, ha, hb, hf⟩ := x2_some h1
    unfold aindex at hf
    split at hf
    ·rename_i ad n ce k j
     split at hf
     ·rename_i hj
      injection hf with hf
      subst hf
      obtain ⟨i1, hi1⟩ := Option.isSome_iff_exists.1 hi0
      have eb := (he _ _ hb).int
      rcases (he _ _ ha).sl_any with hsp | ⟨rfl, _⟩
      case inr => omega
      obtain ⟨b, o, cb, co, rfl, hρ, hv⟩ := (he _ _ ha).sl_some hsp
      rcases hv with ⟨c', hv, _⟩ | ⟨rfl, _⟩
      ·refine ⟨h2, .pointer (some ⟨cb, co + o + j.toNat * sizeT P e, none⟩), ?_, yes_v (s := Instr.indexAt t (ρv x) (ρv i)) (fun w => ?_) rfl⟩
       ·rw [add_mk, Nat.add_assoc]; exact .ptr hρ
       ·have hsz : (sizeOf e).run P w = .ok (sizeT P e) w := by simp [sizeOf, typeInfo, hi1, sizeT]
        rw [hv, eb]
        simp only [Instr.indexAt, asIntOf, Sem.run_bind, Sem.run_pure, Result.andThen_ok, run_underlying hu, if_pos hj, hsz, add_mk]
      ·omega
     ·cases hf
    ·rename_i b o n ce k j
     split at hf
     ·rename_i hj
      obtain ⟨hj, hs1⟩ := hj
      injection hf with hf
      subst hf
      obtain ⟨i1, hi1⟩ := Option.isSome_iff_exists.1 hi0
      have eb := (he _ _ hb).int
      obtain ⟨_, _, cb, co, hρ, hv⟩ := (he _ _ ha).que_inv
      rcases hv with ⟨c', sz, hv, _⟩ | ⟨rfl, _⟩
      ·refine ⟨h2, .pointer (some ⟨cb, co + o + j.toNat, none⟩), ?_, yes_v (s := Instr.indexAt t (ρv x) (ρv i)) (fun w => ?_) rfl⟩
       ·rw [Nat.add_assoc]; exact .ptr hρ
       ·have hsz : (sizeOf e).run P w = .ok (sizeT P e) w := by simp [sizeOf, typeInfo, hi1, sizeT]
        rw [hv, eb]
        simp only [Instr.indexAt, asIntOf, Sem.run_bind, Sem.run_pure, Result.andThen_ok, run_underlying hu, if_pos hj, hsz, hs1, Nat.mul_one, add_mk]
      ·omega
     ·cases hf
    ·cases hf
   ·simp [isPure] at hp
  ·rename_i len e hu
   rw [hu] at h
   simp only at h
   split at hp
   ·rename_i hi0
    rw [if_pos hi0] at h
    obtain ⟨h1, h2⟩ := withH_some h
    obtain ⟨a, b, ha, hb, hf⟩ := x2_some h1
    unfold aindexA at hf
    split at hf
    ·rename_i ad k j
     split at hf
     ·rename_i hj
      injection hf with hf
      subst hf
      obtain ⟨i1, hi1⟩ := Option.isSome_iff_exists.1 hi0
      have eb := (he _ _ hb).int
      obtain ⟨b, o, cb, co, rfl, hρ, hv⟩ := (he _ _ ha).ptr_some
      refine ⟨h2, .pointer (some ⟨cb, co + o + j.toNat * sizeT P e, none⟩), ?_, yes_v (s := Instr.indexAt t (ρv x) (ρv i)) (fun w => ?_) rfl⟩
      ·rw [add_mk, Nat.add_assoc]; exact .ptr hρ
      ·have hsz : (sizeOf e).run P w = .ok (sizeT P e) w := by simp [sizeOf, typeInfo, hi1, sizeT]
       rw [hv, eb]
       simp only [Instr.indexAt, asIntOf, Sem.run_bind, Sem.run_pure, Result.andThen_ok, run_underlying hu, Instr.sureAddr, if_pos hj, hsz, add_mk]
     ·cases hf
    ·cases hf
   ·simp [isPure] at hp
  ·simp [isPure] at hp
 case index t x i =>
  split at h
  ·rename_i hu
   obtain ⟨h1, h2⟩ := withH_some h
   obtain ⟨a, b, ha, hb, hf⟩ := x2_some h1
   unfold fSidx at hf
   split at hf
   ·rename_i s k j
    split at hf
    ·rename_i hj
     split at hf
     ·rename_i c hc
      injection hf with hf
      subst hf
      have ea := (he _ _ ha).string
      have eb := (he _ _ hb).int
      refine ⟨h2, _, .flat rfl, yes_v (s := Instr.index t (ρv x) (ρv i)) (fun w => ?_) rfl⟩
      have hs : s[j.toNat]? = some c := by
       rw [← hc]
       simp only [bytesOf]
       rw [Array.getElem?_toList]
       rfl
      rw [ea, eb]
      simp only [Instr.index, asIntOf, Sem.run_bind, Sem.run_pure, Result.andThen_ok, run_underlying hu, if_pos hj, hs]
     ·cases hf
    ·cases hf
   ·cases hf
  ·rename_i d hd hu
   obtain ⟨h1, h2⟩ := withH_some h
   obtain ⟨l, hl, hf⟩ := xs_some h1
   obtain ⟨a, r1, ha, hr1, rfl⟩ := evs_cons hl
   obtain ⟨b, r2, hb, hr2, rfl⟩ := evs_cons hr1
   obtain rfl := evs_nil hr2
   obtain ⟨hall, hfl, hrun⟩ := flatSem_exec hf
   simp only [List.all_cons, Bool.and_eq_true] at hall
   have ea := (he _ _ ha).of_flat hall.1
   have eb := (he _ _ hb).of_flat hall.2.1
   exact ⟨h2, v, .flat hfl, yes_v (s := Instr.index t (ρv x) (ρv i)) (by rw [ea, eb]; exact hrun) rfl⟩
  ·cases h
 case extract x i =>
  obtain ⟨h1, h2⟩ := withH_some h
  obtain ⟨a, ha, hf⟩ := x1_some h1
  unfold fExt at hf
  split at hf
  ·obtain ⟨c, hv, hr⟩ := (he _ _ ha).tup_inv
   obtain ⟨v', hv', r⟩ := hr.get hf
   rw [Array.getElem?_toList] at hv'
   exact ⟨h2, v', r, yes_v (s := Instr.extract (ρv x) i) (fun w => by rw [hv]; simp only [Instr.extract, hv', Sem.run_pure]) rfl⟩
  ·cases hf
 case makeFunc fn first captured =>
  split at hp
  ·rename_i f
   obtain ⟨h1, h2⟩ := withH_some h
   unfold xMkfn at h1
   split at h1
   ·injection h1 with h1
    subst h1
    exact ⟨h2, .func (.func f) (first.map ρv) (captured.map ρv), .fn (by simpa using he.evs (by assumption)) (by simpa using he.evs (by assumption)), yes_v (s := Instr.makeFunc (.func f) (first.map ρv) (captured.map ρv)) (fun w => rfl) rfl⟩
   ·cases h1
  ·simp [isPure] at hp
 case nilCheck x =>
  obtain ⟨h1, h2⟩ := withH_some h
  obtain ⟨a, ha, hf⟩ := x1_some h1
  unfold fNilchk at hf
  split at hf
  ·injection hf with hf
   subst hf
   have hr := he _ _ ha
   obtain ⟨b, o, cb, co, rfl, hρ, hv⟩ := hr.ptr_some
   exact ⟨h2, _, .ptr hρ, fun w => by simp only [execOp, hv]; rfl⟩
  ·injection hf with hf
   subst hf
   have hr := he _ _ ha
   obtain ⟨a', c', hv, h3, h4⟩ := hr.fn_inv
   exact ⟨h2, _, .fn h3 h4, fun w => by simp only [execOp, hv]; rfl⟩
  ·cases hf
 case call c =>
  obtain ⟨callee, args, argTypes⟩ := c
  cases callee with
  | value f => (exfalso; revert hp; simp only; unfold callOp; (repeat' split) <;> simp [isPure])
  | invoke r m => simp [isPure] at hp
  | builtin b => exact pure_builtin (share := share) he hp h
end
end Go.Proofs.Ytggaimcopbjdiaa.AM
namespace Go.Proofs.Ytggaimcopbjdiaa.AM
section
variable {P : Program} {X : Nat → Option Obj} {w0 w : World} {ρv : Operand → Value} {o : Oper} {ρ : Rho} {h : Nat → Blk} {V : Type → Type} [Vec V] {ev : Operand → Option Value} {H H' : AH V} {v : Value}
 {call : Value → List Value → AH V → Option (Value × AH V)} {share : Bool}
def view (H : AH V) : Nat → Blk := fun b => (Vec.get H b).getD .dead
theorem view_some {b : Nat} {B : Blk} (hb : Vec.get H b = some B) : view H b = B := by simp [view, hb]
theorem view_set {b : Nat} {B B0 : Blk} (hb : Vec.get H b = some B0) : view (Vec.set H b B) = setB (view H) b B := by
 funext i
 have hlt := Vec.get_lt H b B0 hb
 unfold view setB
 rw [Vec.get_set]
 by_cases e : b = i
 ·subst e; rw [if_pos ⟨rfl, hlt⟩, if_pos rfl]; rfl
 ·rw [if_neg (fun x => e x.1), if_neg (Ne.symm e)]
theorem view_push (B : Blk) : view (Vec.push H B) = setB (view H) (Vec.size H) B := by
 funext i
 unfold view setB
 rw [Vec.get_push]
 by_cases e : i = Vec.size H
 ·rw [if_pos e, if_pos e]; rfl
 ·rw [if_neg e, if_neg e]
theorem arow_some {b : Nat} {cs : List Value} (hb : arow H b = some cs) : ∃ w lo, Vec.get H b = some (.arr cs w lo) := by
 unfold arow at hb
 split at hb
 ·injection hb with hb; subst hb; exact ⟨_, _, ‹_›⟩
 ·cases hb
theorem loadVar_plain {t : TypeId} {a : Addr} {u : Value} (hagg : ∀ w, (isAgg t).run P w = .ok false w) (hc : w.cell? a = some u) : (loadVar t a).run P w = .ok u w := by
 simp only [loadVar, Sem.run_bind, hagg w, Result.andThen_ok, Bool.false_eq_true, if_false, run_load, hc]
theorem load_sound (s : St P X w0 ρ h w) {t : TypeId} {n : Option Nat} (hn : isAggT P t = some n) {p p' : Value} (hp : VRel ρ p p') (hv : ∀ b B, ρ b ≠ none → Vec.get H b = some B → h b = B) (hl : aload H n p = some v) :
  ∃ v', VRel ρ v v' ∧ (Instr.loadAt t p').run P w = .ok v' w := by
 unfold aload at hl
 split at hl
 case h_2 => cases hl
 rename_i b off
 split at hl
 case h_2 => cases hl
 rename_i cs hr
 obtain ⟨wr, lo, hb⟩ := arow_some hr
 obtain ⟨b1, o, cb, co, he, hρ, rfl⟩ := hp.ptr_some
 cases he
 have hh := hv b _ (by rw [hρ]; simp) hb
 cases n with
 | none =>
   obtain ⟨d, i, hd, hi, hagg⟩ := isAggT_none hn
   obtain ⟨v', hc, r⟩ := s.cell hh hρ (show cs[off]? = some v from hl)
   exact ⟨v', r, by simp only [Instr.loadAt, Instr.sureAddr, Sem.run_bind, Sem.run_pure, Result.andThen_ok, loadVar_plain hagg hc]⟩
 | some n =>
   obtain ⟨d, i, hd, hrow, hi, hsz, hagg⟩ := isAggT_some hn
   simp only [acells] at hl
   split at hl
   ·rename_i hle
    injection hl with hl
    subst hl
    obtain ⟨cs', hr', hlen, hra⟩ := s.range hh hρ hle
    exact ⟨_, .agg (by simpa using hr'), run_loadAt_mid w cb (co + off) t cs' d hra hd hrow (by rw [hi]; simp [hlen, hsz])⟩
   ·cases hl
structure Makes (P : Program) (ρv : Operand → Value) (o : Oper) (ρ : Rho) (cs : List Value) (n : Nat) (v : Value) (f : Nat → Value) (c : Array Value) (e : TypeId) : Prop where
 run : ∀ w, (execOp ρv o).run P w = .ok (.value (f w.heap.size)) (w.alloc (.cells c e))
 le : cs.length ≤ c.size
 rel : VRels ρ cs (c.toList.take cs.length)
 val : ∀ (ρ' : Rho) (cb : Nat), ρ.le ρ' → ρ' n = some (cb, 0) → VRel ρ' v (f cb)
def isNew {χ : Type} : AOp χ → Bool
 | .alloc .. | .box .. | .mkarr .. | .mkslice .. => true
 | _ => false
theorem repl_get : ∀ (n : Nat) (cs : List Value) (i : Nat), i < n * cs.length → ((List.replicate n cs).flatten)[i]? = cs[i % cs.length]?
 | 0, cs, i, h => by omega
 | n + 1, cs, i, h => by
   rw [List.replicate_succ, List.flatten_cons]
   by_cases hi : i < cs.length
   ·rw [List.getElem?_append_left hi, Nat.mod_eq_of_lt hi]
   ·rw [Nat.succ_mul] at h
    rw [List.getElem?_append_right (by omega), repl_get n cs _ (by omega), ← Nat.mod_eq_sub_mod (by omega)]
theorem made_list (z : Array Value) (n size : Nat) (hz : z.size = size) : ((Array.range (n * size)).map (z[· % z.size]!)).toList = (List.replicate n z.toList).flatten := by
 apply List.ext_getElem?
 intro i
 have hl : ((List.replicate n z.toList).flatten).length = n * size := by simp [hz]
 by_cases hi : i < n * size
 ·rw [repl_get n z.toList i (by simpa [hz] using hi)]
  have hp : 0 < z.size := by
   rcases Nat.eq_zero_or_pos z.size with h0 | h0
   ·rw [← hz, h0] at hi; omega
   ·exact h0
  have hm : i % z.size < z.size := Nat.mod_lt _ hp
  simp [hi, hm]
 ·rw [List.getElem?_eq_none (by simp; omega), List.getElem?_eq_none (by rw [hl]; omega)]
theorem anew_eq (H : AH V) (cs : List Value) : anew H cs = Vec.push H (.arr cs true 0) := rfl
theorem new_sound (he : ERel ρ ev ρv) (hp : isNew (compileOp P share o) = true) (hx : aexec P call (compileOp P share o) ev H = some (v, H')) :
  ∃ cs f c e, H' = anew H cs ∧ Makes P ρv o ρ cs (Vec.size H) v f c e := by
 obtain ⟨dst, op, type, pos, after, guard⟩ := o
 cases op <;> simp only [compileOp] at hp hx <;> (try (simp [isNew] at hp; done)) <;> (try (exfalso; revert hp; (try unfold callOp); (repeat' split) <;> simp [isNew]; done))
 case alloc t =>
  split at hp
  ·rename_i cs hz
   rw [hz] at hx
   simp only at hx
   split at hp
   ·rename_i hf
    rw [if_pos hf] at hx
    simp only [aexec, newPtr, Option.some.injEq, Prod.mk.injEq] at hx
    obtain ⟨rfl, rfl⟩ := hx
    obtain ⟨i, z, hi, hz0, hzc⟩ := zeroT_some hz
    refine ⟨cs, fun n => .pointer (some ⟨n, 0, none⟩), z.cells, t, rfl, fun w => ?_, by rw [← hzc]; simp, ?_, fun ρ' cb hle hr => .ptr (co := 0) hr⟩
    ·simp [execOp, Instr.alloc, run_zeroValue hi hz0, newVar, newRow]
    ·have : z.cells.toList.take cs.length = cs := by rw [← hzc, List.take_length]
     rw [this]
     exact VRels.flat fun u hu => flat_of_flat1 (List.all_eq_true.1 hf u hu)
   ·simp [isNew] at hp
  ·simp [isNew] at hp
 case box e x =>
  simp only [aexec] at hx
  obtain ⟨a, ha, hf⟩ := x1_some hx
  unfold fBox at hf
  split at hf
  ·simp only [newPtr, Option.some.injEq, Prod.mk.injEq] at hf
   obtain ⟨rfl, rfl⟩ := hf
   have hr := (he _ _ ha).cells
   have hl := hr.length
   refine ⟨_, fun n => .pointer (some ⟨n, 0, none⟩), (ρv x).cells, e, rfl, fun w => ?_, by rw [hl]; simp, ?_, fun ρ' cb hle hr => .ptr (co := 0) hr⟩
   ·simp [execOp, Instr.box, newVar, newRow]
   ·rw [hl, List.take_length]; exact hr
  ·cases hf
 case buildSlice t n ps =>
  split at hp
  ·rename_i e hu
   rw [hu] at hx
   simp only at hx
   split at hp
   ·rename_i i cs hi hz
    rw [hi, hz] at hx
    simp only at hx
    split at hp
    ·rename_i hc
     rw [if_pos hc] at hx
     simp only [Bool.and_eq_true, decide_eq_true_eq] at hc
     obtain ⟨⟨⟨hc1, hc2⟩, hc3⟩, hc4⟩ := hc
     simp only [aexec, xMkarr] at hx
     split at hx
     ·rename_i l hl
      split at hx
      ·rename_i c hcf
       split at hx
       ·simp only [Option.some.injEq, Prod.mk.injEq] at hx
        obtain ⟨rfl, rfl⟩ := hx
        obtain ⟨i', z, hi', hz0, hzc⟩ := zeroT_some hz
        rw [hi] at hi'; cases hi'
        have hzs : z.cells.size = i.size := by rw [← hc3, ← hzc]; simp
        have hml := made_list z.cells n i.size hzs
        have hcs : VRels ρ ((List.replicate n cs).flatten) ((Array.range (n * i.size)).map (z.cells[· % z.cells.size]!)).toList := by
         rw [hml, hzc]
         refine VRels.flat fun u hu => flat_of_flat1 (List.all_eq_true.1 hc1 u ?_)
         simp only [List.mem_flatten, List.mem_replicate] at hu
         obtain ⟨l, ⟨_, rfl⟩, hu⟩ := hu
         exact hu
        obtain ⟨c', hf, hr⟩ := fill_rel (xParts_parts he (fun j => some (j * i.size, i.size)) (fun p => (p.1 * i.size, i.size)) (ps := ps.toList) (fun p _ => rfl) hl) hcs hcf
        have hlen : c.length = c'.size := hr.length.trans Array.length_toList
        refine ⟨c, fun b => .slice (some ⟨b, 0, none⟩) n n, c', e, rfl, fun w => ?_, Nat.le_of_eq hlen, ?_, fun ρ' cb hle hr => .sl (co := 0) hr (Nat.le_refl _) (by omega) (fun _ => rfl) (by intro hq; cases hq)⟩
        ·have hnb : ¬ (n * i.size > 16777216) := by simpa using hc2
         by_cases h0 : n * i.size = 0
         ·have hf0 : Instr.fill (fun j => some (j * i.size, i.size)) #[] (ps.toList.map fun p => (p.1, ρv p.2)) = some c' := by
           have : ((Array.range (n * i.size)).map (z.cells[· % z.cells.size]!)) = #[] := by rw [h0]; simp
           rw [← this]; exact hf
          simp [execOp, Instr.buildSlice, run_underlying hu, sizeOf, typeInfo, hi, hnb, h0, hf0, newRow, Array.range_zero']
         ·simp [execOp, Instr.buildSlice, run_underlying hu, sizeOf, typeInfo, hi, hnb, h0, zeroValue, hz0, hf, newRow]
        ·rw [hr.length, List.take_length]; exact hr
       ·cases hx
      ·cases hx
     ·cases hx
    ·simp [isNew] at hp
   ·simp [isNew] at hp
  ·simp [isNew] at hp
 case makeSlice t l c =>
  split at hp
  ·rename_i e hu
   rw [hu] at hx
   simp only at hx
   split at hp
   ·rename_i i cs hi hz
    rw [hi, hz] at hx
    simp only at hx
    split at hp
    ·rename_i hc
     rw [if_pos hc] at hx
     simp only [Bool.and_eq_true, decide_eq_true_eq] at hc
     obtain ⟨⟨hc1, hc2⟩, hc3⟩ := hc
     simp only [aexec] at hx
     obtain ⟨a, b, ha, hb, hf⟩ := x2_some hx
     unfold amkslice at hf
     split at hf
     ·rename_i k1 l1 k2 c1
      split at hf
      ·rename_i hcond
       simp only [Option.some.injEq, Prod.mk.injEq] at hf
       obtain ⟨rfl, rfl⟩ := hf
       obtain ⟨i', z, hi', hz0, hzc⟩ := zeroT_some hz
       rw [hi] at hi'; cases hi'
       have hzs : z.cells.size = i.size := by rw [← hc2, ← hzc]; simp
       have hml := made_list z.cells c1.toNat i.size hzs
       have ea := (he _ _ ha).int
       have eb := (he _ _ hb).int
       have hl : (madeCells z.cells (c1.toNat * i.size)).toList = (List.replicate c1.toNat cs).flatten := by rw [← hzc]; exact hml
       have hsz : ((List.replicate c1.toNat cs).flatten).length = (madeCells z.cells (c1.toNat * i.size)).size := by rw [← hl, Array.length_toList]
       refine ⟨_, fun b => .slice (some ⟨b, 0, none⟩) l1.toNat c1.toNat, madeCells z.cells (c1.toNat * i.size), e, rfl, fun w => ?_, Nat.le_of_eq hsz, ?_, fun ρ' cb hle hr => .sl (co := 0) hr (Nat.le_refl _) (by omega) (fun _ => rfl) (by intro hq; cases hq)⟩
       ·have := run_make (P := P) w t e i z hu hi hz0 k1 k2 l1 c1 hcond.1 hcond.2.1 (by rw [Int.mul_comm]; exact hcond.2.2.1) hcond.2.2.2
        simp only [execOp, ea, eb, Sem.run_bind, this, Result.andThen_ok, Sem.run_pure]
       ·rw [hsz, ← Array.length_toList, List.take_length, hl]
        refine VRels.flat fun u hu => flat_of_flat1 (List.all_eq_true.1 hc1 u ?_)
        simp only [List.mem_flatten, List.mem_replicate] at hu
        obtain ⟨l, ⟨_, rfl⟩, hu⟩ := hu
        exact hu
      ·cases hf
     ·cases hf
    ·simp [isNew] at hp
   ·simp [isNew] at hp
  ·simp [isNew] at hp
structure Now (P : Program) (X : Nat → Option Obj) (w0 : World) (ρ : Rho) (H : AH V) (w : World) : Prop where
 st : St P X w0 ρ (view H) w
 dom : ∀ b p, ρ b = some p → b < Vec.size H
theorem Now.fresh (s : Now P X w0 ρ H w) : ρ (Vec.size H) = none := by
 cases hq : ρ (Vec.size H) with
 | none => rfl
 | some p => have := s.dom _ _ hq; omega
structure Did (P : Program) (X : Nat → Option Obj) (w0 : World) (ρ : Rho) (H H' : AH V) (w : World) (v : Value) (ρ' : Rho) (v' : Value) (w' : World) : Prop where
 le : ρ.le ρ'
 now : Now P X w0 ρ' H' w'
 val : VRel ρ' v v'
 size : Vec.size H ≤ Vec.size H'
 heap : w.heap.size ≤ w'.heap.size
 names : ∀ b p, ρ' b = some p → ρ b = some p ∨ X p.1 = none
theorem names_same {X : Nat → Option Obj} {ρ : Rho} : ∀ b p, ρ b = some p → ρ b = some p ∨ X p.1 = none := fun _ _ h => .inl h
theorem names_upd {X : Nat → Option Obj} {ρ : Rho} {i : Nat} {q : Nat × Nat} {l : Option (Nat × Nat)} (hX : X q.1 = none) : ∀ b p, ρ.upd i q l b = some p → ρ b = some p ∨ X p.1 = none := fun b p hb => by
 by_cases e : b = i
 ·subst e; rw [Rho.upd_same] at hb; cases hb; exact .inr hX
 ·rw [Rho.upd_ne ρ _ _ e] at hb; exact .inl hb
theorem St.there (s : St P X w0 ρ h w) {b cb co : Nat} {cs : List Value} {lo : Nat} (hb : h b = .arr cs true lo) (hρ : ρ b = some (cb, co)) {c : Array Value} {e : TypeId} {fr : Nat × Nat} (hh : w.heap[cb]? = some (.cells c e fr)) {j : Nat} (hj : j < c.size) :
  (w.cell? ⟨cb, j, none⟩).isSome = true ∧ w.frozen? ⟨cb, j, none⟩ = false := by
 have := s.blk b _ hρ
 rw [hb] at this
 obtain ⟨c', e', fr', h1, h2, h3, h4⟩ := this
 simp only at h1
 rw [hh] at h1
 cases h1
 refine ⟨by simp [World.cell?, hh, hj], ?_⟩
 have := (h4 rfl).2 j
 simp only [World.frozen?, hh]
 rw [← Bool.not_eq_true]
 simpa using this
theorem St.arr (s : St P X w0 ρ h w) {b cb co : Nat} {cs : List Value} {wr : Bool} {lo : Nat} (hb : h b = .arr cs wr lo) (hρ : ρ b = some (cb, co)) : ∃ c e fr, w.heap[cb]? = some (.cells c e fr) ∧ co + cs.length ≤ c.size := by
 have := s.blk b _ hρ
 rw [hb] at this
 obtain ⟨c', e', fr', h1, h2, h3, h4⟩ := this
 exact ⟨c', e', fr', h1, h2⟩
theorem aput_some {b off : Nat} {vs : List Value} (hp : aput' H b off vs = some H') : ∃ cs lo, Vec.get H b = some (.arr cs true lo) ∧ lo ≤ off ∧ off + vs.length ≤ cs.length ∧ vs.all oneCell = true ∧ H' = Vec.set H b (.arr (splice cs off vs) true lo) := by
 unfold aput' at hp
 split at hp
 ·split at hp
  ·rename_i hc
   injection hp with hp
   exact ⟨_, _, ‹_›, hc.1, hc.2.1, hc.2.2, hp.symm⟩
  ·cases hp
 ·cases hp
theorem ones {l l' : List Value} (hr : VRels ρ l l') (ho : l.all oneCell = true) : ∀ u ∈ l', u.oneCell' = true := by
 intro u hu
 obtain ⟨i, hi⟩ := List.mem_iff_getElem?.1 hu
 have hl := hr.length
 have hlt : i < l.length := by rw [hl]; exact (List.getElem?_eq_some_iff.1 hi).1
 obtain ⟨u', h1, h2⟩ := hr.get (List.getElem?_eq_getElem hlt)
 rw [hi] at h1
 cases h1
 rw [← oneCell_eq, h2.oneCell]
 exact List.all_eq_true.1 ho _ (List.getElem_mem hlt)
theorem put_sound (s : Now P X w0 ρ H w) {b cb co off : Nat} {vs vs' : List Value} (hρ : ρ b = some (cb, co)) (hr : VRels ρ vs vs') (hp : aput' H b off vs = some H') :
  (∀ j, j < vs'.length → (w.cell? ⟨cb, co + off + j, none⟩).isSome = true) ∧ (∀ j, j < vs'.length → w.frozen? ⟨cb, co + off + j, none⟩ = false) ∧ (∀ u ∈ vs', u.oneCell' = true) ∧
  (storeCells ⟨cb, co + off, none⟩ vs').run P w = .ok () (w.setCells cb (co + off) vs') ∧ Now P X w0 ρ H' (w.setCells cb (co + off) vs') ∧ Vec.size H' = Vec.size H ∧ (w.setCells cb (co + off) vs').heap.size = w.heap.size := by
 obtain ⟨cs, lo, hb, hlo, hle, hone, rfl⟩ := aput_some hp
 have hv := view_some hb
 have hl := hr.length
 obtain ⟨c, e, fr, hh, hsz⟩ := s.st.arr hv hρ
 have ht := fun j (hj : j < vs'.length) => s.st.there hv hρ hh (j := co + off + j) (by omega)
 have h1 := ones hr hone
 refine ⟨fun j hj => (ht j hj).1, fun j hj => (ht j hj).2, h1, ?_, ⟨?_, fun i p hi => ?_⟩, Vec.size_set _ _ _, (setCells_rest cb vs' _ w).2.2.2⟩
 ·have := run_storeCells_cells (P := P) cb (co + off) vs' 0 w (fun j hj => by simpa using (ht j hj).1) (fun j hj => by simpa using (ht j hj).2) h1
  simpa using this
 ·rw [view_set hb]
  exact s.st.write hv hρ hlo hle hr
 ·rw [Vec.size_set]; exact s.dom i p hi
theorem store_sound (s : Now P X w0 ρ H w) {t : TypeId} {i : TypeInfo} (hi : P.info? t = some i) {p p' x x' : Value} (hp : VRel ρ p p') (hx : VRel ρ x x') (ha : astore H i.size p x = some H') :
  ∃ w', (Instr.storeAt t p' x').run P w = .ok () w' ∧ Now P X w0 ρ H' w' ∧ Vec.size H' = Vec.size H ∧ w'.heap.size = w.heap.size := by
 unfold astore at ha
 split at ha
 ·rename_i b off
  split at ha
  ·rename_i hl
   obtain ⟨b', o', cb, co, hq, hρ, rfl⟩ := hp.ptr_some
   cases hq
   obtain ⟨_, _, _, h4, h5, h6, h7⟩ := put_sound s hρ hx.cells ha
   have hlen := hx.cells.length
   refine ⟨_, ?_, h5, h6, h7⟩
   have hsz : x'.cells.size = i.size := by rw [← Array.length_toList, ← hlen]; exact hl
   simp only [Instr.storeAt, Instr.sureAddr, Sem.run_bind, Sem.run_pure, Result.andThen_ok, storeVar, sizeOf, typeInfo, program, Sem.run, hi, hsz, ne_eq, not_true_eq_false, if_false, h4]
  ·cases ha
 ·cases ha
theorem asrc_sound (s : Now P X w0 ρ H w) {size k m : Nat} {x x' : Value} {new : List Value} (hx : VRel ρ x x') (hm : alen x = some m) (hk : k ≤ m) (ha : asrc H size k x = some new) :
  ∃ news, VRels ρ new news ∧ news.length = k * size ∧ (∀ w' : World, w'.heap = w.heap → (Builtin.firstCells size k x').run P w' = .ok news.toArray w') ∧ (∀ w' : World, (Builtin.lenOf x').run P w' = .ok m w') := by
 unfold asrc at ha
 split at ha
 ·rename_i b off n ce
  simp only [alen, Option.some.injEq] at hm
  subst hm
  split at ha
  ·rename_i cs hrow
   obtain ⟨wr, lo, hb⟩ := arow_some hrow
   split at ha
   ·rename_i hle
    injection ha with ha
    subst ha
    obtain ⟨b', o', cb, co, hq, hρ, hv⟩ := hx.sl_some rfl
    cases hq
    rcases hv with ⟨c', rfl, _, _, _⟩ | ⟨rfl, _, o2, c', rfl, _⟩
    ·obtain ⟨cs', hr, hl, hra⟩ := s.st.range (view_some hb) hρ hle
     refine ⟨cs', hr, hl, fun w' hw' => ?_, fun w' => rfl⟩
     refine run_firstCells_some w' size k _ n c' cs' hl fun j u hj => ?_
     rw [add_mk]
     have := hra j u hj
     simpa [World.cell?, hw'] using this
    ·have : k = 0 := by omega
     subst this
     refine ⟨[], by simp only [Nat.zero_mul, List.take_zero]; exact .nil, by simp, fun w' hw' => ?_, fun w' => rfl⟩
     exact run_firstCells_some w' size 0 _ 0 c' [] (by simp) (by simp)
   ·cases ha
  ·cases ha
 ·rename_i b off sp n ce
  simp only [alen, Option.some.injEq] at hm
  subst hm
  split at ha
  ·rename_i hk0
   injection ha with ha
   subst ha
   subst hk0
   rcases hx.sl_any with hsp | ⟨rfl, _, a', c', rfl, _⟩
   ·cases hsp
   ·exact ⟨[], .nil, by simp, fun w' _ => run_firstCells_some w' size 0 _ 0 c' [] (by simp) (by simp), fun w' => rfl⟩
  ·cases ha
 ·rename_i n ce
  simp only [alen, Option.some.injEq] at hm
  subst hm
  split at ha
  ·rename_i hk0
   injection ha with ha
   subst ha
   subst hk0
   obtain ⟨rfl, rfl, rfl⟩ := hx.sl_none
   exact ⟨[], .nil, by simp, fun w' _ => run_firstCells_none w' size 0 0 0, fun w' => rfl⟩
  ·cases ha
 ·rename_i str
  simp only [alen, Option.some.injEq] at hm
  subst hm
  split at ha
  ·rename_i h1
   subst h1
   injection ha with ha
   subst ha
   rw [hx.string]
   refine ⟨_, VRels.flat fun u hu => ?_, ?_, fun w' _ => ?_, fun w' => rfl⟩
   ·obtain ⟨_, _, rfl⟩ := List.mem_map.1 hu; rfl
   ·have := bytes_length str
    simp only [bytesOf] at this
    simp only [List.length_map, List.length_take]
    omega
   ·simp only [Builtin.firstCells, Sem.run_pure]
    congr 1
    apply Array.ext'
    simp [List.extract_eq_take_drop]
  ·cases ha
 ·cases ha
end
end Go.Proofs.Ytggaimcopbjdiaa.AM
namespace Go.Proofs.Ytggaimcopbjdiaa.AM
section
variable {P : Program} {X : Nat → Option Obj} {w0 w : World} {ρv : Operand → Value} {o : Oper} {ρ : Rho} {h : Nat → Blk} {V : Type → Type} [Vec V] {ev : Operand → Option Value} {H H' : AH V} {v : Value}
 {call : Value → List Value → AH V → Option (Value × AH V)} {share : Bool}
theorem sepOk_new {cs : List Value} {lo : Nat} {p p' : Nat × Nat} {B : Blk} (hB : B = .dead ∨ ∃ cs' lo', B = .arr cs' false lo' ∧ p'.2 + cs'.length ≤ p.2 + lo) : sepOk (.arr cs true lo) p B p' ∧ sepOk B p' (.arr cs true lo) p := by
 rcases hB with rfl | ⟨cs', lo', rfl, hl⟩
 ·exact ⟨trivial, trivial⟩
 ·exact ⟨hl, trivial⟩
theorem St.regrow (s : St P X w0 ρ h w) {b id cb co sz : Nat} {cs : List Value} {lo lo' : Nat} (hb : h b = .arr cs true lo) (hp : ρ b = some (cb, co)) (hid : ρ id = none) (hlim : ρ.lim b = some (cs.length, sz)) {Bo : Blk}
  (hBo : Bo = .dead ∨ (Bo = .arr cs false 0 ∧ cs.length ≤ lo')) (hlo : lo ≤ lo') (hloc : lo ≤ cs.length) {new news : List Value} (hr : VRels ρ new news) (hsz : co + cs.length + new.length ≤ sz) :
  St P X w0 (ρ.upd id (cb, co) (some (cs.length + new.length, sz))) (setB (setB h b Bo) id (.arr (cs ++ new) true lo')) (w.setCells cb (co + cs.length) news) := by
 have hne : id ≠ b := fun e => by subst e; rw [hid] at hp; cases hp
 have hlen := hr.length
 have hblk := s.blk b _ hp
 rw [hb] at hblk
 obtain ⟨c, e, fr, h1, h2, h3, h4⟩ := hblk
 simp only at h1 h2 h3 h4
 obtain ⟨sz', c', e', fr', hl1, hl2, hl3⟩ := s.lim b _ cs lo hp hb
 rw [hlim] at hl1
 cases hl1
 rw [h1] at hl2
 cases hl2
 obtain ⟨r1, r2, r3, r4⟩ := setCells_rest cb news (co + cs.length) w
 have hheap := setCells_heap cb news (co + cs.length) w c e fr h1
 have hoth := fun k hk => setCells_other cb news (co + cs.length) w k hk
 have hle := Rho.le_upd (cb, co) (some (cs.length + new.length, sz)) hid
 have hweak : weak Bo (h b) := by
  rcases hBo with rfl | ⟨rfl, _⟩
  ·exact .inr (.inl rfl)
  ·exact .inr (.inr ⟨_, _, _, _, hb, rfl⟩)
 -- what the cells ahead hold
 have hold : ∀ (off : Nat) (u : Value), off < co + cs.length → c[off]? = some u → (csplice c (co + cs.length) news)[off]? = some u := fun off u ho hu => by
  rw [csplice_get news c _ _ (by omega), if_neg (by omega)]; exact hu
 have hread : ∀ (q : Nat × Nat) (cs' : List Value) (lo1 : Nat), q.1 = cb → q.2 + cs'.length ≤ co + cs.length → BRel P X ρ w q (.arr cs' false lo1) → BRel P X ρ (w.setCells cb (co + cs.length) news) q (.arr cs' false lo1) := by
  intro q cs' lo1 hq hql hB
  obtain ⟨c2, e2, fr2, g1, g2, g3, _⟩ := hB
  rw [hq, h1] at g1
  cases g1
  refine ⟨_, e, fr, by rw [hq]; exact hheap, by rw [csplice_size]; exact g2, fun i u hu => ?_, fun hf => by cases hf⟩
  obtain ⟨u', a, r⟩ := g3 i u hu
  have hi : i < cs'.length := (List.getElem?_eq_some_iff.1 hu).1
  exact ⟨u', hold _ _ (by omega) a, r⟩
 have hb' : BRel P X ρ (w.setCells cb (co + cs.length) news) (cb, co) Bo := by
  rcases hBo with rfl | ⟨rfl, _⟩
  ·trivial
  ·exact hread (cb, co) cs 0 rfl (Nat.le_refl _) ⟨c, e, fr, h1, h2, h3, fun hf => by cases hf⟩
 refine ⟨r1.trans s.os, r2.trans s.tape, r3.trans s.output, by rw [r4]; exact s.size, fun k ob hk => ?_, fun i p hi => ?_, fun i p hi => ?_, fun i j p q hij hi hj hq => ?_, fun i p csi loi hi hbi => ?_⟩
 ·rw [hoth k (fun e => by subst e; rw [(h4 trivial).1] at hk; cases hk)]; exact s.frame k ob hk
 ·rw [r4]
  by_cases ei : i = id
  ·subst ei; rw [Rho.upd_same] at hi; cases hi; exact s.dom b _ hp
  ·rw [Rho.upd_ne ρ _ _ ei] at hi; exact s.dom i p hi
 ·by_cases ei : i = id
  ·subst ei
   rw [Rho.upd_same] at hi
   cases hi
   rw [setB_same]
   refine ⟨_, e, fr, hheap, by rw [csplice_size]; simp; omega, fun i u hu => ?_, fun _ => ⟨(h4 trivial).1, (h4 trivial).2⟩⟩
   by_cases hi : i < cs.length
   ·rw [List.getElem?_append_left hi] at hu
    obtain ⟨u', a, r⟩ := h3 i u hu
    exact ⟨u', hold _ _ (by omega) a, r.mono hle⟩
   ·rw [List.getElem?_append_right (by omega)] at hu
    obtain ⟨u', a, r⟩ := hr.get hu
    have hlt : i - cs.length < new.length := (List.getElem?_eq_some_iff.1 hu).1
    refine ⟨u', ?_, r.mono hle⟩
    simp only
    rw [csplice_get news c _ _ (by omega), if_pos (by omega), ← a]
    congr 1; omega
  ·rw [Rho.upd_ne ρ _ _ ei] at hi
   rw [setB_ne _ _ ei]
   by_cases eb : i = b
   ·subst eb
    rw [hp] at hi; cases hi
    rw [setB_same]
    exact hb'.mono hle
   ·rw [setB_ne _ _ eb]
    by_cases e2 : p.1 = cb
    ·rcases s.sharers hb hp eb hi e2 with hd | ⟨cs', lo1, hd, hle1⟩
     ·rw [hd]; trivial
     ·rw [hd]
      have := s.blk i p hi
      rw [hd] at this
      exact (hread p cs' lo1 e2 (by omega) this).mono hle
    ·exact ((s.blk i p hi).heap p (hoth _ e2)).mono hle
 ·-- apart
  have hshare : ∀ k pk, k ≠ id → (ρ.upd id (cb, co) (some (cs.length + new.length, sz))) k = some pk → pk.1 = cb →
    (setB (setB h b Bo) id (.arr (cs ++ new) true lo')) k = .dead ∨ ∃ cs' lo1, (setB (setB h b Bo) id (.arr (cs ++ new) true lo')) k = .arr cs' false lo1 ∧ pk.2 + cs'.length ≤ co + lo' := by
   intro k pk hk hpk hcb
   rw [Rho.upd_ne ρ _ _ hk] at hpk
   rw [setB_ne _ _ hk]
   by_cases eb : k = b
   ·subst eb
    rw [hp] at hpk; cases hpk
    rw [setB_same]
    rcases hBo with rfl | ⟨rfl, hl⟩
    ·exact .inl rfl
    ·exact .inr ⟨_, _, rfl, by simp only; omega⟩
   ·rw [setB_ne _ _ eb]
    rcases s.sharers hb hp eb hpk hcb with hd | ⟨cs', lo1, hd, hle1⟩
    ·exact .inl hd
    ·exact .inr ⟨cs', lo1, hd, by omega⟩
  by_cases ei : i = id
  ·subst ei
   rw [Rho.upd_same] at hi
   cases hi
   rw [setB_same]
   exact (sepOk_new (hshare j q (Ne.symm hij) hj hq.symm)).1
  ·by_cases ej : j = id
   ·subst ej
    rw [Rho.upd_same] at hj
    cases hj
    rw [setB_same]
    exact (sepOk_new (hshare i p ei hi hq)).2
   ·rw [Rho.upd_ne ρ _ _ ei] at hi
    rw [Rho.upd_ne ρ _ _ ej] at hj
    rw [setB_ne _ _ ei, setB_ne _ _ ej]
    have hw : ∀ k, weak (setB h b Bo k) (h k) := fun k => by
     by_cases ek : k = b
     ·subst ek; rw [setB_same]; exact hweak
     ·rw [setB_ne _ _ ek]; exact weak_refl _
    exact sepOk_weak (hw i) (hw j) (s.sep i j p q hij hi hj hq) (s.sep j i q p (Ne.symm hij) hj hi hq.symm)
 ·by_cases ei : i = id
  ·subst ei
   rw [Rho.upd_same] at hi
   cases hi
   rw [setB_same] at hbi
   cases hbi
   exact ⟨sz, _, e, fr, by rw [Rho.lim_same, List.length_append], hheap, by rw [csplice_size]; exact hl3⟩
  ·rw [Rho.upd_ne ρ _ _ ei] at hi
   rw [setB_ne _ _ ei] at hbi
   rw [Rho.lim_ne ρ _ _ ei]
   by_cases eb : i = b
   ·subst eb
    rw [setB_same] at hbi
    rcases hBo with rfl | ⟨rfl, _⟩ <;> cases hbi
   ·rw [setB_ne _ _ eb] at hbi
    by_cases e2 : p.1 = cb
    ·rcases s.sharers hb hp eb hi e2 with hd | ⟨cs', lo1, hd, hle1⟩
     ·rw [hd] at hbi; cases hbi
     ·rw [hd] at hbi; cases hbi
    ·obtain ⟨sz2, c2, e2', fr2, g1, g2, g3⟩ := s.lim i p csi loi hi hbi
     exact ⟨sz2, c2, e2', fr2, g1, by rw [hoth _ e2]; exact g2, g3⟩
theorem size_zeroCells (z : Array Value) (n : Nat) : (Builtin.zeroCells z n).size = n * z.size := by simp [Builtin.zeroCells]
theorem grow_sound (s : Now P X w0 ρ H w) {t tx ty e : TypeId} {i : TypeInfo} {z : Value} (ht : P.underlying t = some (.slice e)) (hi : P.info? e = some i) (hz : i.zero = some z) (hzs : z.cells.size = i.size)
  {base : Option Addr} {n c' k : Nat} {old olds new news : List Value} (hold : (Builtin.firstCells i.size n (.slice base n c')).run P w.drew = .ok olds.toArray w.drew) (ho : VRels ρ old olds) (hol : olds.length = n * i.size)
  {x' : Value} (hs : Go.Src P i.size tx x' k news w) (hr : VRels ρ new news) (hg : c' < n + k) (hbytes : (n + k) * i.bytes ≤ 140737488355328) (hb0 : 0 < i.bytes) {hh : Nat → Blk} (hw : ∀ b p, ρ b = some p → weak (hh b) (view H b))
  {lo : Nat} (hid : hh (Vec.size H) = .arr (old ++ new) true lo) :
  ∃ ρ' v' w', (Builtin.append_ #[t, tx] ty #[.slice base n c', x']).run P w = .ok v' w' ∧ ρ.le ρ' ∧ St P X w0 ρ' hh w' ∧ (∀ b p, ρ' b = some p → b < Vec.size H + 1) ∧
   VRel ρ' (.slice (some ⟨Vec.size H, 0, none⟩) (n + k) (2 * (n + k))) v' ∧ w.heap.size ≤ w'.heap.size ∧ ∀ b p, ρ' b = some p → ρ b = some p ∨ X p.1 = none := by
 have hnl := hs.newsLen
 have hle63 : n + k ≤ 140737488355328 := Nat.le_trans (Nat.le_mul_of_pos_right _ hb0) hbytes
 have hrun := run_append_grow_src w t tx ty e i z ht hi hz base n c' olds hold x' k news hs hg (by omega) (growslice_fits hg hbytes)
 have hcap := grownCap_ge w (n + k) c' e
 have hcl : (old ++ new).length = (olds ++ news).length := (ho.append hr).length
 have hlen : (olds ++ news).length = (n + k) * i.size := by rw [List.length_append, hol, hnl, Nat.add_mul]
 have hst : St P X w0 _ hh w.drew := (s.st.weaken hw).drawn (w.drawn + 1)
 have hnew := hst.newRow s.fresh (c := (olds ++ news).toArray ++ Builtin.zeroCells z.cells (grownCap w (n + k) c' e - (n + k))) e hid (by rw [hcl]; simp) (by
  rw [hcl]
  simp only [Array.toList_append, List.take_left]
  exact ho.append hr)
 refine ⟨_, _, _, hrun, Rho.le_upd _ _ s.fresh, hnew, fun b p hb => ?_, ?_, ?_, names_upd s.st.fresh⟩
 ·by_cases eb : b = Vec.size H
  ·omega
  ·rw [Rho.upd_ne ρ _ _ eb] at hb
   have := s.dom b p hb
   omega
 ·have hsz : ((olds ++ news).toArray ++ Builtin.zeroCells z.cells (grownCap w (n + k) c' e - (n + k))).size = grownCap w (n + k) c' e * i.size := by
   rw [Array.size_append, size_zeroCells, hzs]
   simp only [List.size_toArray, hlen]
   rw [← Nat.add_mul]; congr 1; omega
  refine .sl (e := 0) (co := 0) (o := 0) (cb := w.heap.size) (Rho.upd_same _ _ _ _) hcap (by omega) (by omega) (fun _ _ L sz hL size hc => ?_)
  rw [Rho.lim_same] at hL
  cases hL
  rw [hcl, hlen] at hc
  have h0 : 0 < n + k := by omega
  have : size = i.size := Nat.eq_of_mul_eq_mul_left h0 hc
  subst this
  rw [Nat.zero_add]
  exact Nat.le_of_eq hsz.symm
 ·show w.heap.size ≤ (w.heap.push _).size
  simp
theorem view_self {b : Nat} {B : Blk} (hb : Vec.get H b = some B) : view (Vec.set H b B) = view H := by
 rw [view_set hb]
 funext i
 by_cases e : i = b
 ·subst e; rw [setB_same, view_some hb]
 ·rw [setB_ne _ _ e]
theorem splice_nil (cs : List Value) (o : Nat) : splice cs o [] = cs := rfl
theorem append_sound (s : Now P X w0 ρ H w) {t tx ty e : TypeId} (ht : P.underlying t = some (.slice e)) (htx : (∃ e', P.underlying tx = some (.slice e')) ∨ P.underlying tx = some .string)
  (hzt : zeroOk P e = true) (hpos : 0 < sizeT P e) (hby : 0 < bytesT P e) {x x' y y' : Value} (hx : VRel ρ x x') (hy : VRel ρ y y')
  (ha : aappend share (sizeT P e) (bytesT P e) H x y = some (v, H')) :
  ∃ ρ' v' w', (Builtin.append_ #[t, tx] ty #[x', y']).run P w = .ok v' w' ∧ Did P X w0 ρ H H' w v ρ' v' w' := by
 unfold zeroOk at hzt
 cases hz : zeroT P e with
 | none => rw [hz] at hzt; cases hzt
 | some zs =>
 rw [hz] at hzt
 simp only [beq_iff_eq] at hzt
 obtain ⟨i, z, hi, hz0, hzc⟩ := zeroT_some hz
 have es : sizeT P e = i.size := by simp [sizeT, hi]
 have eb : bytesT P e = i.bytes := by simp [bytesT, hi]
 have hzs : z.cells.size = i.size := by rw [← es, ← hzt, ← hzc, Array.length_toList]
 rw [es] at hpos ha
 rw [eb] at hby ha
 unfold aappend at ha
 split at ha
 case h_2 => cases ha
 rename_i base n ce k hk
 split at ha
 ·cases ha
 rename_i new hnew
 split at ha
 ·cases ha
 rename_i hc
 have hone : new.all oneCell = true := by
  cases hq : new.all oneCell with
  | true => rfl
  | false => exact absurd (.inl hq) hc
 have hroom : (n + k) * i.bytes ≤ 140737488355328 := by
  have : ¬ room < (n + k) * i.bytes := fun hh => hc (.inr hh)
  simp only [room] at this
  omega
 obtain ⟨news, hr, hnl, hfirst, hlen⟩ := asrc_sound (P := P) s hy hk (Nat.le_refl _) hnew
 have hsrc : Go.Src P i.size tx y' k news w := ⟨htx, hlen, hfirst w rfl, hfirst w.drew rfl, hnl, ones hr hone⟩
 split at ha
 ·-- no block yet
  split at ha
  ·rename_i hz1
   obtain ⟨rfl, rfl⟩ := hz1
   obtain ⟨_, _, rfl⟩ := hx.sl_none
   split at ha
   ·rename_i hk0
    subst hk0
    simp only [Option.some.injEq, Prod.mk.injEq] at ha
    obtain ⟨rfl, rfl⟩ := ha
    refine ⟨ρ, .slice none 0 0, w, ?_, Rho.le.refl _, s, .flat rfl, Nat.le_refl _, Nat.le_refl _, names_same⟩
    rcases htx with ⟨e', hk'⟩ | hk' <;> simp [Builtin.append_, run_underlying ht, run_underlying hk', sizeOf, typeInfo, hi, hlen, hsrc.cells]
   ·rename_i hk0
    simp only [Option.some.injEq, Prod.mk.injEq] at ha
    obtain ⟨rfl, rfl⟩ := ha
    have hg := grow_sound (P := P) (ty := ty) s ht hi hz0 hzs (base := none) (n := 0) (c' := 0) (old := []) (olds := []) (new := new) (hh := view (anew H new)) (lo := 0) (run_firstCells_none w.drew i.size 0 0 0) .nil (by simp) hsrc hr (by omega) hroom hby
     (fun b p hb => by rw [anew_eq, view_push, setB_ne _ _ (by have := s.dom b p hb; omega)]; exact weak_refl _) (by rw [anew_eq, view_push, setB_same]; rfl)
    obtain ⟨ρ', v', w', h1, h2, h3, h4, h5, h6, h7⟩ := hg
    have hsize : Vec.size (anew H new) = Vec.size H + 1 := Vec.size_push _ _
    refine ⟨ρ', v', w', h1, h2, ⟨h3, fun b p hb => by rw [hsize]; exact h4 b p hb⟩, ?_, by omega, h6, h7⟩
    simpa using h5
  ·cases ha
 ·rename_i b off
  obtain ⟨b', o', cb, co, hq, hρ, hv⟩ := hx.sl_some rfl
  cases hq
  split at ha
  ·-- there is room, surely
   rename_i hfit
   split at ha
   ·rename_i H1 hput
    simp only [Option.some.injEq, Prod.mk.injEq] at ha
    obtain ⟨rfl, rfl⟩ := ha
    rcases hv with ⟨c', rfl, hcc, hex, hlim⟩ | ⟨rfl, hce, o2, c', rfl, hex⟩
    ·obtain ⟨g1, g2, g3, g4, g5, g6, g7⟩ := put_sound (P := P) s hρ hr hput
     have hrun := run_append_room_src w t tx ty e i ht hi cb (co + off) n c' y' k news hsrc (by omega)
      (by simpa [Nat.add_assoc] using g1) (by simpa [Nat.add_assoc] using g2)
     refine ⟨ρ, _, _, hrun, Rho.le.refl _, by simpa [Nat.add_assoc] using g5, VRel.mk_sl hρ hcc hex hlim, by omega, ?_, names_same⟩
     rw [Nat.add_assoc, g7]
     exact Nat.le_refl _
    ·have hk0 : k = 0 := by omega
     subst hk0
     have hnews : news = [] := List.eq_nil_of_length_eq_zero (by rw [hnl]; simp)
     have hnew0 : new = [] := List.eq_nil_of_length_eq_zero (by rw [hr.length, hnews]; rfl)
     subst hnews; subst hnew0
     obtain ⟨cs, lo, hb, hlo, hle, _, rfl⟩ := aput_some hput
     have hrun := run_append_room_src w t tx ty e i ht hi cb o2 0 c' y' 0 [] hsrc (by omega) (by simp) (by simp)
     refine ⟨ρ, _, _, hrun, Rho.le.refl _, ⟨?_, fun i p hi => by rw [Vec.size_set]; exact s.dom i p hi⟩, .slz hρ (by omega) hex, by rw [Vec.size_set]; exact Nat.le_refl _, Nat.le_refl _, names_same⟩
     rw [splice_nil, view_self hb]
     exact s.st
   ·cases ha
  ·rename_i hfit
   split at ha
   ·cases ha
   rename_i hk0
   split at ha
   case h_2 => cases ha
   rename_i cs wr lo hb
   have hvb := view_some hb
   split at ha
   case isFalse => cases ha
   rename_i hle
   -- what the old one holds
   have hsize : ∀ (H0 : AH V) (B : Blk), Vec.size H0 = Vec.size H → Vec.size (Vec.push H0 B) = Vec.size H + 1 := fun H0 B hq => by rw [Vec.size_push, hq]
   have hidne : Vec.size H ≠ b := by have := s.dom b _ hρ; omega
   have hrange : ∃ olds, VRels ρ ((cs.drop off).take (n * i.size)) olds ∧ olds.length = n * i.size ∧ (Builtin.firstCells i.size n x').run P w.drew = .ok olds.toArray w.drew := by
    rcases hv with ⟨c', rfl, _, _, _⟩ | ⟨rfl, _, o2, c', rfl, _⟩
    ·obtain ⟨cs', h1, h2, h3⟩ := s.st.range hvb hρ hle
     exact ⟨cs', h1, h2, run_firstCells_some w.drew i.size n _ n c' cs' h2 fun j u hj => by rw [add_mk]; exact h3 j u hj⟩
    ·exact ⟨[], by simp only [Nat.zero_mul, List.take_zero]; exact .nil, by simp, run_firstCells_some w.drew i.size 0 _ 0 c' [] (by simp) (by simp)⟩
   obtain ⟨olds, ho, hol, hfo⟩ := hrange
   split at ha
   ·-- just so many
    rename_i hodd
    simp only [Option.some.injEq, Prod.mk.injEq] at ha
    obtain ⟨rfl, rfl⟩ := ha
    have hc' : ∃ bs c', x' = .slice bs n c' ∧ c' < n + k := by
     rcases hv with ⟨c', rfl, _, hex, _⟩ | ⟨rfl, _, o2, c', rfl, hex⟩
     ·exact ⟨_, _, rfl, by rw [hex hodd]; omega⟩
     ·exact ⟨_, _, rfl, by rw [hex (by omega)]; omega⟩
    obtain ⟨bs, c', rfl, hg⟩ := hc'
    obtain ⟨ρ', v', w', h1, h2, h3, h4, h5, h6, h7⟩ := grow_sound (P := P) (ty := ty) s ht hi hz0 hzs (hh := view (anew H ((cs.drop off).take (n * i.size) ++ new))) (lo := 0) hfo ho hol hsrc hr hg hroom hby
     (fun b p hb => by rw [anew_eq, view_push, setB_ne _ _ (by have := s.dom b p hb; omega)]; exact weak_refl _) (by rw [anew_eq, view_push, setB_same])
    have hsz := hsize H (.arr ((cs.drop off).take (n * i.size) ++ new) true 0) rfl
    exact ⟨ρ', v', w', h1, h2, ⟨h3, fun b p hb => by rw [anew_eq, hsz]; exact h4 b p hb⟩, h5, by rw [anew_eq, hsz]; omega, h6, h7⟩
   rename_i hodd
   split at ha
   ·cases ha
   rename_i hcond
   have q1 : ¬ ce = 0 := fun hh => hcond (.inl hh)
   have q2 : wr = true := by
    cases hq : wr with
    | true => rfl
    | false => exact absurd (.inr (.inl hq)) hcond
   have q3 : off = 0 := Classical.byContradiction fun hh => hcond (.inr (.inr (.inl hh)))
   have q4 : n = ce / 2 := Classical.byContradiction fun hh => hcond (.inr (.inr (.inr (.inl hh))))
   have q5 : n * i.size = cs.length := Classical.byContradiction fun hh => hcond (.inr (.inr (.inr (.inr hh))))
   subst q2; subst q3
   have hcs : (cs.drop 0).take (n * i.size) = cs := by rw [q5, List.drop_zero, List.take_length]
   rcases hv with ⟨c', rfl, hcc, hex, hlim⟩ | ⟨hn0, hce, _⟩
   case inr => omega
   obtain ⟨sz, cA, eA, fA, hl1, hl2, hl3⟩ := s.st.lim b _ cs lo hρ hvb
   have hXcb : X cb = none := by
    have hbk := s.st.blk b _ hρ
    rw [hvb] at hbk
    obtain ⟨_, _, _, _, _, _, h4⟩ := hbk
    exact (h4 rfl).1
   have hreach := hlim (by omega) rfl _ _ hl1 i.size (by rw [← q4]; exact q5)
   rw [hcs] at ha ho
   -- both ways to the same
   have both : ∀ (Bo : Blk) (lo' : Nat), (Bo = .dead ∨ (Bo = .arr cs false 0 ∧ cs.length ≤ lo')) → lo ≤ lo' → lo ≤ cs.length →
     ∃ ρ' v' w', (Builtin.append_ #[t, tx] ty #[.slice (some ⟨cb, co + 0, none⟩) n c', y']).run P w = .ok v' w' ∧ Did P X w0 ρ H (Vec.push (Vec.set H b Bo) (.arr (cs ++ new) true lo')) w (.slice (some ⟨Vec.size H, 0, none⟩) (n + k) (2 * (n + k))) ρ' v' w' := by
    intro Bo lo' hBo hlo hloc
    have hview : view (Vec.push (Vec.set H b Bo) (.arr (cs ++ new) true lo')) = setB (setB (view H) b Bo) (Vec.size H) (.arr (cs ++ new) true lo') := by rw [view_push, view_set hb, Vec.size_set]
    have hsz := hsize (Vec.set H b Bo) (.arr (cs ++ new) true lo') (Vec.size_set _ _ _)
    by_cases hg : c' < n + k
    ·obtain ⟨ρ', v', w', h1, h2, h3, h4, h5, h6, h7⟩ := grow_sound (P := P) (ty := ty) s ht hi hz0 hzs (hh := view (Vec.push (Vec.set H b Bo) (.arr (cs ++ new) true lo'))) (lo := lo') hfo ho hol hsrc hr hg hroom hby
      (fun b1 p hb1 => by
       rw [hview, setB_ne _ _ (by have := s.dom b1 p hb1; omega)]
       by_cases e1 : b1 = b
       ·subst e1
        rw [setB_same, hvb]
        rcases hBo with rfl | ⟨rfl, _⟩
        ·exact .inr (.inl rfl)
        ·exact .inr (.inr ⟨_, _, _, _, rfl, rfl⟩)
       ·rw [setB_ne _ _ e1]; exact weak_refl _) (by rw [hview, setB_same])
     exact ⟨ρ', v', w', h1, h2, ⟨h3, fun b p hb => by rw [hsz]; exact h4 b p hb⟩, h5, by rw [hsz]; omega, h6, h7⟩
    ·have hnk : (n + k) * i.size ≤ c' * i.size := Nat.mul_le_mul_right _ (by omega)
     have hnk' : (n + k) * i.size = cs.length + news.length := by rw [Nat.add_mul, q5, hnl]
     have hlr := hr.length
     have hre := s.st.regrow hvb hρ s.fresh hl1 hBo hlo hloc hr (by omega)
     rw [← hview] at hre
     have hrun := run_append_room_src w t tx ty e i ht hi cb (co + 0) n c' y' k news hsrc (by omega)
      (fun j hj => by rw [q5]; exact (s.st.there hvb hρ hl2 (by omega)).1) (fun j hj => by rw [q5]; exact (s.st.there hvb hρ hl2 (by omega)).2)
     rw [q5, Nat.add_zero] at hrun
     refine ⟨_, _, _, hrun, Rho.le_upd _ _ s.fresh, ⟨hre, fun b1 p hb1 => ?_⟩, ?_, by rw [hsz]; omega, by rw [(setCells_rest cb news (co + cs.length) w).2.2.2]; exact Nat.le_refl _, names_upd hXcb⟩
     ·rw [hsz]
      by_cases e1 : b1 = Vec.size H
      ·omega
      ·rw [Rho.upd_ne ρ _ _ e1] at hb1
       have := s.dom b1 p hb1
       omega
     ·refine .sl (e := 0) (co := co) (o := 0) (Rho.upd_same _ _ _ _) (by omega) (by omega) (by omega) (fun _ _ L sz1 hL size hc => ?_)
      rw [Rho.lim_same] at hL
      cases hL
      have h0 : 0 < n + k := by omega
      have : size = i.size := Nat.eq_of_mul_eq_mul_left h0 (by rw [hc, hnk']; omega)
      subst this
      exact hreach
   split at ha
   ·rename_i hsh
    simp only [Option.some.injEq, Prod.mk.injEq] at ha
    obtain ⟨rfl, rfl⟩ := ha
    exact both (.arr cs false 0) (n * i.size) (.inr ⟨rfl, by omega⟩) (by omega) hsh.2
   ·split at ha
    ·rename_i hlo0
     simp only [Option.some.injEq, Prod.mk.injEq] at ha
     obtain ⟨rfl, rfl⟩ := ha
     exact both .dead 0 (.inl rfl) (by omega) (by omega)
    ·cases ha
 ·cases ha
theorem copy_sound (s : Now P X w0 ρ H w) {t tx ty e : TypeId} (ht : P.underlying t = some (.slice e)) (hie : (P.info? e).isSome = true) {x x' y y' : Value} (hx : VRel ρ x x') (hy : VRel ρ y y')
  (ha : acopy (sizeT P e) H x y = some (v, H')) :
  ∃ ρ' v' w', (Builtin.copy_ #[t, tx] ty #[x', y']).run P w = .ok v' w' ∧ Did P X w0 ρ H H' w v ρ' v' w' := by
 obtain ⟨i, hi⟩ := Option.isSome_iff_exists.1 hie
 have es : sizeT P e = i.size := by simp [sizeT, hi]
 rw [es] at ha
 unfold acopy at ha
 split at ha
 case h_2 => cases ha
 rename_i base n ce k hk
 split at ha
 ·cases ha
 rename_i cells hc
 obtain ⟨news, hr, hnl, hfirst, hlen⟩ := asrc_sound (P := P) s hy hk (Nat.min_le_left _ _) hc
 have hm : Nat.min k n = min k n := rfl
 split at ha
 ·simp only [Option.some.injEq, Prod.mk.injEq] at ha
  obtain ⟨rfl, rfl⟩ := ha
  obtain ⟨rfl, rfl, rfl⟩ := hx.sl_none
  refine ⟨ρ, _, w, ?_, Rho.le.refl _, s, .flat rfl, Nat.le_refl _, Nat.le_refl _, names_same⟩
  simp only [Builtin.copy_, Sem.run_bind, List.getElem?_toArray, List.getElem?_cons_zero, List.getElem?_cons_succ, run_underlying ht, Result.andThen_ok, hlen, sizeOf, typeInfo, program, Sem.run, hi, Sem.run_pure, hm, hfirst w rfl, goInt]
 ·rename_i b off
  obtain ⟨b', o', cb, co, hq, hρ, hv⟩ := hx.sl_some rfl
  cases hq
  split at ha
  ·rename_i hm0
   simp only [Option.some.injEq, Prod.mk.injEq] at ha
   obtain ⟨rfl, rfl⟩ := ha
   have hnews : news = [] := List.eq_nil_of_length_eq_zero (by rw [hnl, hm0]; simp)
   subst hnews
   refine ⟨ρ, .int .i64 0, w, ?_, Rho.le.refl _, s, .flat rfl, Nat.le_refl _, Nat.le_refl _, names_same⟩
   have hz : ∀ a : Addr, (storeCells a ([] : List Value)).run P w = .ok () w := fun a => rfl
   have hf := hfirst w rfl
   rw [hm0] at hf
   rcases hv with ⟨c', rfl, _⟩ | ⟨rfl, _, o2, c', rfl, _⟩
   ·simp only [Builtin.copy_, Sem.run_bind, List.getElem?_toArray, List.getElem?_cons_zero, List.getElem?_cons_succ, run_underlying ht, Result.andThen_ok, hlen, sizeOf, typeInfo, program, Sem.run, hi, Sem.run_pure, hm, hm0, hf, hz, goInt]
    rfl
   ·simp only [Builtin.copy_, Sem.run_bind, List.getElem?_toArray, List.getElem?_cons_zero, List.getElem?_cons_succ, run_underlying ht, Result.andThen_ok, hlen, sizeOf, typeInfo, program, Sem.run, hi, Sem.run_pure, hm, hm0, hf, hz, goInt]
    rfl
  ·rename_i hm0
   split at ha
   ·rename_i H1 hput
    simp only [Option.some.injEq, Prod.mk.injEq] at ha
    obtain ⟨rfl, rfl⟩ := ha
    obtain ⟨g1, g2, g3, g4, g5, g6, g7⟩ := put_sound (P := P) s hρ hr hput
    have hf := hfirst w rfl
    rcases hv with ⟨c', rfl, _⟩ | ⟨rfl, _, o2, c', rfl, _⟩
    ·refine ⟨ρ, _, _, ?_, Rho.le.refl _, g5, .flat rfl, by omega, by omega, names_same⟩
     simp only [Builtin.copy_, Sem.run_bind, List.getElem?_toArray, List.getElem?_cons_zero, List.getElem?_cons_succ, run_underlying ht, Result.andThen_ok, hlen, sizeOf, typeInfo, program, Sem.run, hi, Sem.run_pure, hm, hf, g4, goInt]
    ·omega
   ·cases ha
 ·cases ha
end
end Go.Proofs.Ytggaimcopbjdiaa.AM
namespace Go.Proofs.Ytggaimcopbjdiaa.AM
def FW (r : Option Nat) : Fence := { Fence.wide with round := r }
section
variable {P : Program} {X : Nat → Option Obj} {w0 w : World} {o : Oper} {ρ : Rho} {h : Nat → Blk} {V : Type → Type} [Vec V] {ev : Operand → Option Value} {H H' : AH V} {v : Value}
 {call : Value → List Value → AH V → Option (Value × AH V)} {share : Bool} {a : Act} {r : Option Nat} {n : Nat} {K : Act → World → Prop} {Q : Exit → Act → World → Prop}
def OnlyReturns (R : Value → World → Prop) : Ending → World → Prop := fun e w => ∃ v, e = .returned v ∧ R v w
def Upon (r : Option Nat) (n : Nat) (P : Program) (w : World) (R : Value → World → Prop) : Next → Prop
 | .enter f args => CallsIn (FW r) n P f args w (OnlyReturns R)
 | .round l f tmps assign body => RoundIn (FW r) n P l f tmps assign body w (OnlyReturns R)
 | _ => False
def CallOk (P : Program) (call : Value → List Value → AH V → Option (Value × AH V)) : Prop :=
 ∀ (fv : Value) (args : List Value) (H : AH V) (v : Value) (H' : AH V), call fv args H = some (v, H') →
  ∀ (X : Nat → Option Obj) (w0 : World) (ρ : Rho) (w : World) (fv' : Value) (args' : List Value), VRel ρ fv fv' → VRels ρ args args' → Now P X w0 ρ H w →
   ∃ nx, (do let d ← Deferred.ofValue fv' args'.toArray; invoke d.target d.args : Sem Next).run P w = .ok nx w ∧ ∀ r n, Upon r n P w (fun v' w' => ∃ ρ', Did P X w0 ρ H H' w v ρ' v' w') nx
theorem upon_next {nx : Next} {R : Value → World → Prop} (hu : Upon r (n - 1) P w R nx) (hK : ∀ v' w', R v' w' → K (a.put o.dst v') w') : o.uponIn (FW r) n P a K Q (.ok nx w) := by
 cases nx <;> simp only [Upon] at hu
 ·rename_i f args
  rw [Oper.uponIn_enter]
  refine ⟨(fun hd => by cases hd), CallsIn.mono hu fun e w' he => ?_⟩
  obtain ⟨v', rfl, hr⟩ := he
  exact hK v' w' hr
 ·rename_i l f tmps assign body
  rw [Oper.uponIn_round]
  refine ⟨(fun hd => by cases hd), RoundIn.mono hu fun e w' he => ?_⟩
  obtain ⟨v', rfl, hr⟩ := he
  exact hK v' w' hr
theorem Now.newRow (s : Now P X w0 ρ H w) {cs : List Value} {c : Array Value} (e : TypeId) (hl : cs.length ≤ c.size) (hr : VRels ρ cs (c.toList.take cs.length)) :
  Now P X w0 (ρ.upd (Vec.size H) (w.heap.size, 0) (some (cs.length, c.size))) (anew H cs) (w.alloc (.cells c e)) := by
 refine ⟨?_, fun b p hb => ?_⟩
 ·rw [anew_eq, view_push]
  refine St.newRow (s.st.view fun b p hb => ?_) s.fresh e (setB_same _ _ _) hl hr
  have := s.dom b p hb
  rw [setB_ne _ _ (by omega)]
 ·rw [anew_eq, Vec.size_push]
  by_cases e1 : b = Vec.size H
  ·omega
  ·rw [Rho.upd_ne ρ _ _ e1] at hb
   have := s.dom b p hb
   omega
theorem Makes.did {ρv : Operand → Value} {cs : List Value} {f : Nat → Value} {c : Array Value} {e : TypeId} (s : Now P X w0 ρ H w) (hm : Makes P ρv o ρ cs (Vec.size H) v f c e) :
  ∃ ρ', Did P X w0 ρ H (anew H cs) w v ρ' (f w.heap.size) (w.alloc (.cells c e)) := by
 refine ⟨_, Rho.le_upd _ _ s.fresh, s.newRow e hm.le hm.rel, hm.val _ _ (Rho.le_upd _ _ s.fresh) (Rho.upd_same _ _ _ _), by rw [anew_eq, Vec.size_push]; omega, ?_, names_upd s.st.fresh⟩
 show w.heap.size ≤ (w.heap.push _).size
 simp
theorem not_defer (hx : aexec P call (compileOp P share o) ev H = some (v, H')) : ∀ c, o.op ≠ .defer c := by
 intro c hc
 obtain ⟨dst, op, type, pos, after, guard⟩ := o
 simp only at hc
 subst hc
 simp [compileOp, aexec] at hx
theorem exact_op (hcall : CallOk P call) (s : Now P X w0 ρ H w) (he : ERel ρ ev a.eval) (hx : aexec P call (compileOp P share o) ev H = some (v, H'))
  (hK : ∀ ρ' v' w', Did P X w0 ρ H H' w v ρ' v' w' → K (a.put o.dst v') w') : o.wpIn (FW r) n P a w K Q := by
 refine ⟨fun _ _ => trivial, ?_⟩
 rw [Oper.semAt_eq _ _ _ (not_defer hx)]
 by_cases hp : isPure (compileOp P share o) = true
 ·obtain ⟨rfl, v', hr, hy⟩ := pure_sound he hp hx
  rw [hy w, Oper.uponIn_value]
  exact hK ρ v' w ⟨Rho.le.refl _, s, hr, Nat.le_refl _, Nat.le_refl _, names_same⟩
 by_cases hn : isNew (compileOp P share o) = true
 ·obtain ⟨cs, f, c, e, rfl, hm⟩ := new_sound he hn hx
  rw [hm.run w, Oper.uponIn_value]
  obtain ⟨ρ', hd⟩ := hm.did s
  exact hK _ _ _ hd
 obtain ⟨dst, op, type, pos, after, guard⟩ := o
 have hbad : ∀ {p : Prop}, compileOp P share ⟨dst, op, type, pos, after, guard⟩ = .bad → p := fun hb => by rw [hb] at hx; simp [aexec] at hx
 cases hop : compileOp P share ⟨dst, op, type, pos, after, guard⟩ <;> rw [hop] at hp hn hx <;> (try (simp [isPure] at hp; done)) <;> (try (simp [isNew] at hn; done)) <;> (try (simp [aexec] at hx; done))
 case load n' x =>
  have hld : ∃ t y, op = .load t y ∧ isAggT P t = some n' ∧ y = x := by
   cases op <;> simp only [compileOp] at hop <;> (try (cases hop; done))
   case load t y =>
    split at hop
    ·cases hop; exact ⟨t, _, rfl, ‹_›, rfl⟩
    ·cases hop
   all_goals (exfalso; revert hop; (try unfold callOp); (repeat' split) <;> (intro hop; cases hop))
  obtain ⟨t, y, rfl, hn', rfl⟩ := hld
  obtain ⟨h1, rfl⟩ := withH_some hx
  obtain ⟨p, hp', hl⟩ := x1_some h1
  obtain ⟨v', hr, hrun⟩ := load_sound (P := P) s.st hn' (he _ _ hp') (fun b B _ hb => view_some hb) hl
  simp only [execOp, Sem.run_bind, hrun, Result.andThen_ok, Sem.run_pure, Oper.uponIn_value]
  exact hK ρ v' w ⟨Rho.le.refl _, s, hr, Nat.le_refl _, Nat.le_refl _, names_same⟩
 case store n' x y =>
  have hst : ∃ t i, op = .store t x y ∧ P.info? t = some i ∧ n' = i.size := by
   cases op <;> simp only [compileOp] at hop <;> (try (cases hop; done))
   case store t x' y' =>
    split at hop
    ·cases hop; exact ⟨t, _, rfl, ‹_›, rfl⟩
    ·cases hop
   all_goals (exfalso; revert hop; (try unfold callOp); (repeat' split) <;> (intro hop; cases hop))
  obtain ⟨t, i, rfl, hi, rfl⟩ := hst
  obtain ⟨p, u, hp', hu, hf⟩ := x2_some hx
  unfold fStore at hf
  split at hf
  ·rename_i H1 hst
   simp only [Option.some.injEq, Prod.mk.injEq] at hf
   obtain ⟨rfl, rfl⟩ := hf
   obtain ⟨w', hrun, hnow, hsz, hhs⟩ := store_sound s hi (he _ _ hp') (he _ _ hu) hst
   simp only [execOp, Sem.run_bind, hrun, Result.andThen_ok, Sem.run_pure, Oper.uponIn_skip]
   exact hK ρ undef w' ⟨Rho.le.refl _, hnow, .flat rfl, by omega, by omega, names_same⟩
  ·cases hf
 case append sh size bytes x y =>
  have hap : ∃ args argTypes t tx e, op = .call ⟨.builtin .append, args, argTypes⟩ ∧ args.toList = [x, y] ∧ argTypes.toList = [t, tx] ∧ P.underlying t = some (.slice e) ∧ ((∃ e', P.underlying tx = some (.slice e')) ∨ P.underlying tx = some .string) ∧
    zeroOk P e = true ∧ 0 < sizeT P e ∧ 0 < bytesT P e ∧ size = sizeT P e ∧ bytes = bytesT P e := by
   cases op <;> simp only [compileOp] at hop <;> (try (cases hop; done))
   case call c =>
    obtain ⟨callee, args, argTypes⟩ := c
    cases callee <;> simp only at hop <;> (try (cases hop; done))
    ·exfalso; revert hop; unfold callOp; (repeat' split) <;> (intro hop; cases hop)
    rename_i b
    split at hop
    ·split at hop <;> cases hop
    ·cases hop
    ·cases hop
    ·cases hop
    ·cases hop
    ·cases hop
    ·rename_i s1 x1 t tx ha ht
     split at hop
     ·rename_i e e' hu1 hu2
      split at hop
      ·rename_i hc
       simp only [Bool.and_eq_true, decide_eq_true_eq] at hc
       cases hop
       exact ⟨args, argTypes, t, tx, e, rfl, ha, ht, hu1, .inl ⟨_, hu2⟩, hc.1.1, hc.1.2, hc.2, rfl, rfl⟩
      ·cases hop
     ·rename_i e hu1 hu2
      split at hop
      ·rename_i hc
       simp only [Bool.and_eq_true, decide_eq_true_eq] at hc
       cases hop
       exact ⟨args, argTypes, t, tx, e, rfl, ha, ht, hu1, .inr hu2, hc.1.1, hc.1.2, hc.2, rfl, rfl⟩
      ·cases hop
     ·cases hop
    ·split at hop
     ·split at hop <;> cases hop
     ·cases hop
    ·cases hop
   all_goals (exfalso; revert hop; (try unfold callOp); (repeat' split) <;> (intro hop; cases hop))
  obtain ⟨args, argTypes, t, tx, e, rfl, ha, ht, hu1, hu2, hz, h1, h2, rfl, rfl⟩ := hap
  obtain ⟨p, u, hp', hu, hf⟩ := x2_some hx
  obtain ⟨ρ', v', w', hrun, hd⟩ := append_sound (P := P) (ty := type) s hu1 hu2 hz h1 h2 (he _ _ hp') (he _ _ hu) hf
  have e1 : args.map a.eval = #[a.eval x, a.eval y] := by apply Array.ext'; simp [ha]
  have e2 : argTypes = #[t, tx] := by apply Array.ext'; simp [ht]
  have hb := exec_builtin (ρv := a.eval) (b := .append) (args := args) (argTypes := argTypes) (type := type) (dst := dst) (pos := pos) (after := after) (guard := guard) (s := Builtin.append_ argTypes type (args.map a.eval)) (fun _ => rfl)
  rw [hb]
  simp only [e1, e2, Sem.run_bind, hrun, Result.andThen_ok, Sem.run_pure, Oper.uponIn_value]
  exact hK _ _ _ hd
 case copy size x y =>
  have hap : ∃ args argTypes t tx e, op = .call ⟨.builtin .copy, args, argTypes⟩ ∧ args.toList = [x, y] ∧ argTypes.toList = [t, tx] ∧ P.underlying t = some (.slice e) ∧ (P.info? e).isSome = true ∧ size = sizeT P e := by
   cases op <;> simp only [compileOp] at hop <;> (try (cases hop; done))
   case call c =>
    obtain ⟨callee, args, argTypes⟩ := c
    cases callee <;> simp only at hop <;> (try (cases hop; done))
    ·exfalso; revert hop; unfold callOp; (repeat' split) <;> (intro hop; cases hop)
    rename_i b
    split at hop
    ·split at hop <;> cases hop
    ·cases hop
    ·cases hop
    ·cases hop
    ·cases hop
    ·cases hop
    ·split at hop
     ·split at hop <;> cases hop
     ·split at hop <;> cases hop
     ·cases hop
    ·rename_i d1 s1 t tx ha ht
     split at hop
     ·rename_i e hu1
      split at hop
      ·rename_i hc
       simp only [Bool.and_eq_true, decide_eq_true_eq] at hc
       cases hop
       exact ⟨args, argTypes, t, tx, e, rfl, ha, ht, hu1, hc.1, rfl⟩
      ·cases hop
     ·cases hop
    ·cases hop
   all_goals (exfalso; revert hop; (try unfold callOp); (repeat' split) <;> (intro hop; cases hop))
  obtain ⟨args, argTypes, t, tx, e, rfl, ha, ht, hu1, h1, rfl⟩ := hap
  obtain ⟨p, u, hp', hu, hf⟩ := x2_some hx
  obtain ⟨ρ', v', w', hrun, hd⟩ := copy_sound (P := P) (ty := type) (tx := tx) s hu1 h1 (he _ _ hp') (he _ _ hu) hf
  have e1 : args.map a.eval = #[a.eval x, a.eval y] := by apply Array.ext'; simp [ha]
  have e2 : argTypes = #[t, tx] := by apply Array.ext'; simp [ht]
  have hb := exec_builtin (ρv := a.eval) (b := .copy) (args := args) (argTypes := argTypes) (type := type) (dst := dst) (pos := pos) (after := after) (guard := guard) (s := Builtin.copy_ argTypes type (args.map a.eval)) (fun _ => rfl)
  rw [hb]
  simp only [e1, e2, Sem.run_bind, hrun, Result.andThen_ok, Sem.run_pure, Oper.uponIn_value]
  exact hK _ _ _ hd
 case call f args =>
  have hca : ∃ as_ argTypes, op = .call ⟨.value f, as_, argTypes⟩ ∧ as_.toList = args := by
   cases op <;> simp only [compileOp] at hop <;> (try (cases hop; done))
   case call c =>
    obtain ⟨callee, as_, argTypes⟩ := c
    cases callee <;> simp only at hop <;> (try (cases hop; done))
    ·unfold callOp at hop
     split at hop
     ·split at hop <;> cases hop
      exact ⟨as_, argTypes, rfl, rfl⟩
     ·cases hop; exact ⟨as_, argTypes, rfl, rfl⟩
    ·exfalso; revert hop; (repeat' split) <;> (intro hop; cases hop)
   all_goals (exfalso; revert hop; (try unfold callOp); (repeat' split) <;> (intro hop; cases hop))
  obtain ⟨as_, argTypes, rfl, rfl⟩ := hca
  simp only [aexec, xCall] at hx
  split at hx
  ·rename_i fv vs hf hvs
   obtain ⟨nx, hrun, hu⟩ := hcall _ _ _ _ _ hx X w0 ρ w _ _ (he _ _ hf) (he.evs hvs) s
   have hex : (execOp a.eval ⟨dst, .call ⟨.value f, as_, argTypes⟩, type, pos, after, guard⟩).run P w = .ok nx w := by
    have e1 : (as_.toList.map a.eval).toArray = as_.map a.eval := by apply Array.ext'; simp
    rw [e1] at hrun
    simpa only [execOp, resolve] using hrun
   rw [hex]
   exact upon_next (hu r (n - 1)) fun v' w' ⟨ρ', hd⟩ => hK ρ' v' w' hd
  ·cases hx
 case xt g args =>
  have hca : ∃ as_ argTypes, op = .call ⟨.value (.func g), as_, argTypes⟩ ∧ as_.toList = args ∧ xtOk P g = true := by
   cases op <;> simp only [compileOp] at hop <;> (try (cases hop; done))
   case call c =>
    obtain ⟨callee, as_, argTypes⟩ := c
    cases callee <;> simp only at hop <;> (try (cases hop; done))
    ·unfold callOp at hop
     split at hop
     ·split at hop
      ·next hq =>
       cases hop
       exact ⟨as_, argTypes, rfl, rfl, hq⟩
      ·cases hop
     ·cases hop
    ·exfalso; revert hop; (repeat' split) <;> (intro hop; cases hop)
   all_goals (exfalso; revert hop; (try unfold callOp); (repeat' split) <;> (intro hop; cases hop))
  obtain ⟨as_, argTypes, rfl, rfl, hxt⟩ := hca
  obtain ⟨h1, h2⟩ := withH_some hx
  obtain ⟨l, hl, hf⟩ := xs_some h1
  obtain ⟨hall, hfl, hrun⟩ := flatSem_exec hf
  have ea := (he.evs hl).of_flat hall
  unfold xtOk at hxt
  split at hxt
  ·rename_i fn hfn
   simp only [Bool.and_eq_true, Bool.not_eq_true', Option.isSome_iff_exists, Option.isNone_iff_eq_none] at hxt
   obtain ⟨hb, hname, hnx, ⟨e, hfe⟩, _⟩ := hxt
   have hrun2 : (e l.toArray).run P w = .ok v w := by
    have := hrun w
    unfold flatSem at this
    simp only [Sem.run_bind] at this
    rw [show (program).run P w = .ok P w from rfl, Result.andThen_ok, hfn] at this
    simp only [hfe] at this
    exact this
   have hex : (execOp a.eval ⟨dst, .call ⟨.value (.func g), as_, argTypes⟩, type, pos, after, guard⟩).run P w = .ok (.value v) w := by
    have e1 : as_.map a.eval = l.toArray := by
     apply Array.ext'
     rw [Array.toList_map]
     exact ea
    have h3 : (do let d ← Deferred.ofValue (a.eval (.func g)) (as_.map a.eval); invoke d.target d.args : Sem Next).run P w = .ok (.value v) w := by
     show (do let d ← Deferred.ofValue (.func (.func g) #[] #[]) (as_.map a.eval); invoke d.target d.args : Sem Next).run P w = .ok (.value v) w
     rw [e1]
     have h4 : (callFunc g l.toArray).run P w = .ok (.value v) w := by rw [run_callFunc_extern hfn hname (by rw [hb]; rfl) hnx hfe, hrun2]; rfl
     simpa [Deferred.ofValue, invoke] using h4
    simpa only [execOp, resolve] using h3
   rw [hex]
   subst h2
   simp only [Oper.uponIn_value]
   exact hK ρ v w ⟨Rho.le.refl _, s, .flat hfl, Nat.le_refl _, Nat.le_refl _, names_same⟩
  ·cases hxt
end
end Go.Proofs.Ytggaimcopbjdiaa.AM
namespace Go.Proofs.Ytggaimcopbjdiaa.AM
section mapM
variable {P : Program} {α β : Type} {f : α → Option β} {V : Type → Type} [Vec V] {H : AH V} {call : Value → List Value → AH V → Option (Value × AH V)} {ev : β → Option Value}
theorem m1_some {γ : Type} {k : β → γ} {x : α} {r : γ} (h : m1 f k x = some r) : ∃ y, f x = some y ∧ r = k y := by
 unfold m1 at h
 split at h
 ·injection h with h; exact ⟨_, ‹_›, h.symm⟩
 ·cases h
theorem m2_some {γ : Type} {k : β → β → γ} {x y : α} {r : γ} (h : m2 f k x y = some r) : ∃ a b, f x = some a ∧ f y = some b ∧ r = k a b := by
 unfold m2 at h
 split at h
 ·injection h with h; exact ⟨_, _, ‹_›, ‹_›, h.symm⟩
 ·cases h
theorem m3_some {γ : Type} {k : β → β → β → γ} {x y z : α} {r : γ} (h : m3 f k x y z = some r) : ∃ a b c, f x = some a ∧ f y = some b ∧ f z = some c ∧ r = k a b c := by
 unfold m3 at h
 split at h
 ·injection h with h; exact ⟨_, _, _, ‹_›, ‹_›, ‹_›, h.symm⟩
 ·cases h
theorem evs_map : ∀ {xs : List α} {ys : List β}, mapOpt f xs = some ys → evs ev ys = evs (fun x => (f x).bind ev) xs
 | [], ys, h => by simp [mapOpt] at h; subst h; rfl
 | x :: r, ys, h => by
   unfold mapOpt at h
   split at h
   ·rename_i y hy
    split at h
    ·rename_i l hl
     injection h with h
     subst h
     simp only [evs, hy, Option.bind_some, evs_map hl]
    ·cases h
   ·cases h
theorem xo_map {x : Option α} {y : Option β} (h : mapO f x = some y) : xo ev y = xo (fun x => (f x).bind ev) x := by
 cases x with
 | none => simp [mapO] at h; subst h; rfl
 | some x =>
   simp only [mapO] at h
   split at h
   ·rename_i z hz
    injection h with h
    subst h
    simp only [xo, hz, Option.bind_some]
   ·cases h
theorem xParts_map : ∀ {ps : List (Nat × Nat × α)} {l : List (Nat × Nat × β)}, mapOpt (mParts f) ps = some l → xParts ev l = xParts (fun x => (f x).bind ev) ps
 | [], l, h => by simp [mapOpt] at h; subst h; rfl
 | (o, s, x) :: r, l, h => by
   unfold mapOpt at h
   split at h
   ·rename_i y hy
    split at h
    ·rename_i l' hl
     injection h with h
     subst h
     unfold mParts at hy
     split at hy
     ·rename_i z hz
      injection hy with hy
      subst hy
      simp only at hz
      simp only [xParts, hz, Option.bind_some, xParts_map hl]
     ·cases hy
    ·cases h
   ·cases h
theorem aexec_mapM {op : AOp α} {op' : AOp β} (h : op.mapM f = some op') : aexec P call op' ev H = aexec P call op (fun x => (f x).bind ev) H := by
 cases op <;> simp only [AOp.mapM] at h <;>
  (first
   | (cases h; rfl)
   | (obtain ⟨y, h1, rfl⟩ := m1_some h; simp only [aexec, x1, h1, Option.bind_some]; done)
   | (obtain ⟨y, z, h1, h2, rfl⟩ := m2_some h; simp only [aexec, x2, h1, h2, Option.bind_some]; done)
   | (obtain ⟨y, z, u, h1, h2, h3, rfl⟩ := m3_some h; simp only [aexec, xPick, h1, h2, h3, Option.bind_some]; rename_i c a b; cases ev y <;> (try rfl); rename_i vv; cases vv <;> (try rfl); rename_i bb; cases bb <;> simp [h2, h3]; done)
   | (split at h
      ·injection h with h; subst h; rename_i h1; simp only [aexec, xs, evs_map h1]
      ·cases h)
   | (split at h
      ·injection h with h; subst h; rename_i h1; simp only [aexec, xBuild, xMkarr, xParts_map h1]
      ·cases h)
   | (split at h
      ·injection h with h; subst h; rename_i h1 h2 h3; simp only [aexec, xScut, h1, Option.bind_some, xo_map h2, xo_map h3]
      ·cases h)
   | (split at h
      ·injection h with h; subst h; rename_i h1 h2 h3 h4; simp only [aexec, xCut, h1, Option.bind_some, xo_map h2, xo_map h3, xo_map h4]
      ·cases h)
   | (split at h
      ·injection h with h; subst h; rename_i h1 h2; simp only [aexec, xMkfn, evs_map h1, evs_map h2]
      ·cases h)
   | (split at h
      ·injection h with h; subst h; rename_i h1 h2; simp only [aexec, xMkfn, xCall, h1, Option.bind_some, evs_map h2]
      ·cases h))
end mapM
def oval (T L : List Value) : Org → Option Value
 | .tmp i => T[i]?
 | .val k => L.reverse[k]?
 | .const v => some v
 | .func f => some (.func (.func f) #[] #[])
theorem oval_src {T L : List Value} {x : Org} {v : Value} (h : oval T L x = some v) : sev T L (x.src L.length) = some v := by
 cases x with
 | val k =>
   simp only [oval] at h
   have hk : k < L.length := by have := (List.getElem?_eq_some_iff.1 h).1; simpa using this
   rw [List.getElem?_reverse hk] at h
   exact h
 | _ => exact h
theorem oval_cons {T L : List Value} {x : Org} {v : Value} (u : Value) (h : oval T L x = some v) : oval T (u :: L) x = some v := by
 cases x with
 | val k =>
   simp only [oval] at h ⊢
   have hk : k < L.reverse.length := (List.getElem?_eq_some_iff.1 h).1
   rw [List.reverse_cons, List.getElem?_append_left hk]
   exact h
 | _ => exact h
theorem oval_last (T L : List Value) (u : Value) : oval T (u :: L) (.val L.length) = some u := by
 simp only [oval, List.reverse_cons]
 rw [List.getElem?_append_right (by simp)]
 simp
theorem find_cons (m : OEnv) (d t : Nat) (x : Org) : OEnv.find ((d, x) :: m) t = if d = t then some x else m.find t := by
 simp only [OEnv.find, List.find?_cons]
 by_cases e : d = t
 ·subst e; simp
 ·rw [if_neg e]
  have : (d == t) = false := by simpa using e
  simp only [this]
theorem find_setOrg (m : OEnv) (d : Option Nat) (t : Nat) (x : Org) : (setOrg m d x).find t = if d = some t then some x else m.find t := by
 cases d with
 | none => simp [setOrg]
 | some d => simp only [setOrg, find_cons, Option.some.injEq]
def MRel (ρ : Rho) (m : OEnv) (T L : List Value) (tmps : Array Value) : Prop :=
 ∀ t x, m.find t = some x → ∃ v v', oval T L x = some v ∧ tmps[t]? = some v' ∧ VRel ρ v v'
section
variable {P : Program} {X : Nat → Option Obj} {w0 w : World} {o : Oper} {ρ ρ' : Rho} {V : Type → Type} [Vec V] {H H' : AH V} {v : Value} {m : OEnv} {T L : List Value}
 {call : Value → List Value → AH V → Option (Value × AH V)} {share : Bool} {a : Act} {r : Option Nat} {n : Nat} {Q : Exit → Act → World → Prop}
theorem MRel.org (h : MRel ρ m T L a.tmps) {x : Operand} {y : Org} (hx : orgOf m x = some y) : ∃ v, oval T L y = some v ∧ VRel ρ v (a.eval x) := by
 cases x with
 | tmp t =>
   obtain ⟨v, v', h1, h2, h3⟩ := h t y hx
   exact ⟨v, h1, by simp only [Act.eval, Array.getD_eq_getD_getElem?, h2, Option.getD_some]; exact h3⟩
 | const c =>
   simp only [orgOf] at hx
   split at hx
   ·rename_i hf
    injection hx with hx
    subst hx
    exact ⟨c, rfl, .flat hf⟩
   ·cases hx
 | global g => cases hx
 | func f =>
   injection hx with hx
   subst hx
   exact ⟨_, rfl, .fn .nil .nil⟩
theorem MRel.erel (h : MRel ρ m T L a.tmps) : ERel ρ (fun x => (srcOf m L.length x).bind (sev T L)) a.eval := by
 intro x v hx
 simp only [srcOf] at hx
 cases hy : orgOf m x with
 | none => rw [hy] at hx; cases hx
 | some y =>
   rw [hy] at hx
   obtain ⟨v', h1, h2⟩ := h.org hy
   simp only [Option.map_some, Option.bind_some, oval_src h1, Option.some.injEq] at hx
   exact hx ▸ h2
theorem orgIn_some {ops : Array Oper} {x : Operand} {y : Org} (h : orgIn ops o m x = some y) : orgOf m x = some y := by
 unfold orgIn at h
 split at h
 ·split at h
  ·exact h
  ·cases h
 ·exact h
theorem srcIn_some {ops : Array Oper} {x : Operand} {s : Src} (h : srcIn ops o m n x = some s) : srcOf m n x = some s := by
 unfold srcIn at h
 cases hy : orgIn ops o m x with
 | none => rw [hy] at h; cases h
 | some y => rw [hy] at h; unfold srcOf; rw [orgIn_some hy]; exact h
theorem MRel.erelIn {ops : Array Oper} (h : MRel ρ m T L a.tmps) : ERel ρ (fun x => (srcIn ops o m L.length x).bind (sev T L)) a.eval := by
 intro x v hx
 refine h.erel x v ?_
 cases hs : srcIn ops o m L.length x with
 | none => simp only [hs] at hx; cases hx
 | some s => simp only [hs] at hx; simp only [srcIn_some hs]; exact hx
theorem MRel.mono (h : MRel ρ m T L a.tmps) (hl : ρ.le ρ') : MRel ρ' m T L a.tmps := fun t x hx => let ⟨v, v', h1, h2, h3⟩ := h t x hx; ⟨v, v', h1, h2, h3.mono hl⟩
theorem put_get {d : Option Nat} {v' : Value} {t : Nat} (hd : ∀ d0, d = some d0 → d0 < a.tmps.size) : (a.put d v').tmps[t]? = if d = some t then some v' else a.tmps[t]? := by
 cases d with
 | none => simp [Act.put]
 | some d =>
   have := hd d rfl
   simp only [Act.put, Array.getElem?_setIfInBounds, Option.some.injEq]
   by_cases e : d = t
   ·subst e; rw [if_pos rfl, if_pos rfl, if_pos this]
   ·rw [if_neg e, if_neg e]
theorem put_size {d : Option Nat} {v' : Value} : (a.put d v').tmps.size = a.tmps.size := by
 cases d <;> simp [Act.put]
theorem put_defers {d : Option Nat} {v' : Value} : (a.put d v').defers = a.defers := by
 cases d <;> rfl
theorem MRel.put {y : Org} {L' : List Value} {v v' : Value} (h : MRel ρ m T L a.tmps) (hL : ∀ x u, oval T L x = some u → oval T L' x = some u) (hy : oval T L' y = some v) (hv : VRel ρ v v') {d : Option Nat} (hd : ∀ d0, d = some d0 → d0 < a.tmps.size) :
  MRel ρ (setOrg m d y) T L' (a.put d v').tmps := by
 intro t x hx
 rw [find_setOrg] at hx
 by_cases e : d = some t
 ·rw [if_pos e] at hx
  injection hx with hx
  subst hx
  exact ⟨v, v', hy, by rw [put_get hd, if_pos e], hv⟩
 ·rw [if_neg e] at hx
  obtain ⟨u, u', h1, h2, h3⟩ := h t x hx
  exact ⟨u, u', hL _ _ h1, by rw [put_get hd, if_neg e]; exact h2, h3⟩
theorem wanted_same {ops : Array Oper} (h : MRel ρ m T L a.tmps) {d : Nat} {want : Bool} {s : Src} (hs : srcOf m L.length (.tmp d) = some s) {j : Nat} (hg : o.guard = some (j, want)) (hj : (ops[j]?).bind (·.dst) = some d) :
  Region.wanted o (yielded ops a.tmps) = awanted T L (some (s, want)) := by
 simp only [srcOf, orgOf] at hs
 cases hy : m.find d with
 | none => rw [hy] at hs; cases hs
 | some y =>
   rw [hy] at hs
   simp only [Option.map_some, Option.some.injEq] at hs
   subst hs
   obtain ⟨v, v', h1, h2, h3⟩ := h d y hy
   simp only [Region.wanted, hg, yielded, hj, Option.bind_some, h2, awanted, oval_src h1]
   cases h3 with
   | flat hf => cases v <;> simp <;> (first | rfl | (rename_i b; cases b <;> cases want <;> rfl))
   | _ => rfl
theorem guardOf_none {ops : Array Oper} (h : guardOf ops o = none) : o.guard = none := by
 cases hg : o.guard with
 | none => rfl
 | some g => simp [guardOf, hg] at h
theorem guardOf_some {ops : Array Oper} {d : Nat} {want : Bool} (h : guardOf ops o = some (some d, want)) : ∃ j, o.guard = some (j, want) ∧ (ops[j]?).bind (·.dst) = some d := by
 cases hg : o.guard with
 | none => simp [guardOf, hg] at h
 | some g =>
   obtain ⟨j, w⟩ := g
   simp only [guardOf, hg, Option.map_some, Option.some.injEq, Prod.mk.injEq] at h
   exact ⟨j, by rw [h.2], h.1⟩
theorem move_exec {x : Operand} (h : compileOp P share o = .mov x) : execOp a.eval o = pure (.value (a.eval x)) := by
 obtain ⟨dst, op, type, pos, after, guard⟩ := o
 cases op <;> simp only [compileOp] at h <;> (try (cases h; done))
 case move y => cases h; rfl
 case assign y => cases h; rfl
 all_goals (exfalso; revert h; (try unfold callOp); (repeat' split) <;> (intro h; cases h))
theorem mov_not_defer {x : Operand} (h : compileOp P share o = .mov x) : ∀ c, o.op ≠ .defer c := by
 intro c hc
 obtain ⟨dst, op, type, pos, after, guard⟩ := o
 simp only at hc
 subst hc
 simp [compileOp] at h
theorem list_sound {ops : Array Oper} (hcall : CallOk P call) {Q : Exit → Act → World → Prop} {nt : Nat} : ∀ {l : List Oper} {m m' : OEnv} {k k' : Nat} {al : List AOper} {L L' : List Value} {H H' : AH V} {ρ : Rho} {a : Act} {w : World},
  someOps P share ops (l.map fun o => (o, 0)) m k = some (al, m', k') → k = L.length → aops P call T al L H = some (L', H') → MRel ρ m T L a.tmps → Now P X w0 ρ H w → nt ≤ a.tmps.size → (∀ o ∈ l, ∀ d, o.dst = some d → d < nt) →
  (∀ (ρ' : Rho) (a' : Act) (w' : World), ρ.le ρ' → MRel ρ' m' T L' a'.tmps → Now P X w0 ρ' H' w' → a'.tmps.size = a.tmps.size → a'.defers = a.defers → Vec.size H ≤ Vec.size H' → w.heap.size ≤ w'.heap.size → (∀ b p, ρ' b = some p → ρ b = some p ∨ X p.1 = none) → k' = L'.length → Q .normal a' w') →
  wpListIn (FW r) n P ops Q l a w
 | [], m, m', k, k', al, L, L', H, H', ρ, a, w, hs, hk, ha, hm, hn, hnt, hd, hQ => by
   simp only [List.map_nil, someOps, Option.some.injEq, Prod.mk.injEq] at hs
   obtain ⟨rfl, rfl, rfl⟩ := hs
   simp only [aops, Option.some.injEq, Prod.mk.injEq] at ha
   obtain ⟨rfl, rfl⟩ := ha
   exact hQ ρ a w (Rho.le.refl _) hm hn rfl rfl (Nat.le_refl _) (Nat.le_refl _) names_same hk
 | o :: l, m, m', k, k', al, L, L', H, H', ρ, a, w, hs, hk, ha, hm, hn, hnt, hd, hQ => by
   subst hk
   have hdo : ∀ d0, o.dst = some d0 → d0 < a.tmps.size := fun d0 h0 => Nat.lt_of_lt_of_le (hd o (by simp) d0 h0) hnt
   have hdl : ∀ o' ∈ l, ∀ d, o'.dst = some d → d < nt := fun o' ho' => hd o' (by simp [ho'])
   have hdone : ∀ (ρ1 : Rho) (a1 : Act) (w1 : World) (H1 : AH V), ρ.le ρ1 → a1.tmps.size = a.tmps.size → a1.defers = a.defers → Vec.size H ≤ Vec.size H1 → w.heap.size ≤ w1.heap.size → (∀ b p, ρ1 b = some p → ρ b = some p ∨ X p.1 = none) →
     (∀ (ρ' : Rho) (a' : Act) (w' : World), ρ1.le ρ' → MRel ρ' m' T L' a'.tmps → Now P X w0 ρ' H' w' → a'.tmps.size = a1.tmps.size → a'.defers = a1.defers → Vec.size H1 ≤ Vec.size H' → w1.heap.size ≤ w'.heap.size → (∀ b p, ρ' b = some p → ρ1 b = some p ∨ X p.1 = none) → k' = L'.length → Q .normal a' w') := by
    intro ρ1 a1 w1 H1 q1 q2 q3 q4 q5 q6 ρ' a' w' g1 g2 g3 g4 g5 g6 g7 g8 g9
    refine hQ ρ' a' w' (q1.trans g1) g2 g3 (by omega) (by rw [g5, q3]) (by omega) (by omega) (fun b p hb => ?_) g9
    rcases g8 b p hb with h1 | h1
    ·exact q6 b p h1
    ·exact .inr h1
   simp only [List.map_cons, someOps] at hs
   split at hs
   ·-- another's value
    rename_i y hone
    unfold oneOp at hone
    split at hone
    ·rename_i x hg hc
     cases hy : orgIn ops o m x with
     | none => rw [hy] at hone; cases hone
     | some y' =>
       rw [hy] at hone
       simp only [Option.map_some, Option.some.injEq, Prod.mk.injEq, true_and] at hone
       subst hone
       obtain ⟨u, h1, h2⟩ := hm.org (orgIn_some hy)
       refine wpListIn_plain hg fun K hK => ⟨fun _ _ => trivial, ?_⟩
       rw [Oper.semAt_eq _ _ _ (mov_not_defer hc), move_exec hc, Sem.run_pure, Oper.uponIn_value]
       exact hK _ _ (list_sound hcall hs rfl ha (hm.put (fun _ _ h => h) h1 h2 hdo) hn (by rw [put_size]; exact hnt) hdl (hdone _ _ _ _ (Rho.le.refl _) put_size put_defers (Nat.le_refl _) (Nat.le_refl _) names_same))
    ·split at hone
     ·simp at hone
     ·exfalso; revert hone; cases srcIn ops o m L.length (.tmp _) <;> simp
     ·cases hone
   ·rename_i ao y hone
    split at hs
    ·rename_i al' m1 k1 hs'
     simp only [Option.some.injEq, Prod.mk.injEq] at hs
     obtain ⟨rfl, rfl, rfl⟩ := hs
     -- the operation itself
     have key : ∃ op', ao.op = op' ∧ (compileOp P share o).mapM (srcIn ops o m L.length) = some op' ∧ y = .val L.length ∧ Region.wanted o (yielded ops a.tmps) = awanted T L ao.g := by
      unfold oneOp at hone
      split at hone
      ·rename_i x hg hc
       revert hone
       cases orgIn ops o m x <;> simp
      ·split at hone
       ·rename_i op' hop hg
        simp only [Option.some.injEq, Prod.mk.injEq] at hone
        obtain ⟨h1, h2⟩ := hone
        subst h1
        exact ⟨op', rfl, hop, h2.symm, by simp only [Region.wanted, guardOf_none hg, awanted]⟩
       ·rename_i op' d want hop hg
        cases hsrc : srcIn ops o m L.length (.tmp d) with
        | none => rw [hsrc] at hone; cases hone
        | some s =>
          rw [hsrc] at hone
          simp only [Option.map_some, Option.some.injEq, Prod.mk.injEq] at hone
          obtain ⟨h1, h2⟩ := hone
          subst h1
          obtain ⟨j, hg1, hg2⟩ := guardOf_some hg
          exact ⟨op', rfl, hop, h2.symm, wanted_same hm (srcIn_some hsrc) hg1 hg2⟩
       ·cases hone
     obtain ⟨op', rfl, hop, rfl, hwant⟩ := key
     refine wpListIn_step fun K hK => ?_
     rw [hwant]
     simp only [aops] at ha
     split at ha
     ·rename_i hw
      rw [if_pos hw]
      split at ha
      ·rename_i u H1 hx
       rw [aexec_mapM hop] at hx
       refine exact_op hcall hn hm.erelIn hx fun ρ1 v1 w1 hd1 => hK _ _ ?_
       have hm1 : MRel ρ1 (setOrg m o.dst (.val L.length)) T (u :: L) (a.put o.dst v1).tmps := (hm.mono hd1.le).put (fun _ _ h => oval_cons u h) (oval_last T L u) hd1.val hdo
       exact list_sound hcall hs' rfl ha hm1 hd1.now (by rw [put_size]; exact hnt) hdl (hdone _ _ _ _ hd1.le put_size put_defers hd1.size hd1.heap hd1.names)
      ·cases ha
     ·rename_i hw
      rw [if_neg (by simp [hw])]
      refine ⟨fun _ _ => trivial, hK _ _ ?_⟩
      have hm1 : MRel ρ (setOrg m o.dst (.val L.length)) T (undef :: L) (a.put o.dst undef).tmps := hm.put (fun _ _ h => oval_cons undef h) (oval_last T L undef) (.flat rfl) hdo
      exact list_sound hcall hs' rfl ha hm1 hn (by rw [put_size]; exact hnt) hdl (hdone _ _ _ _ (Rho.le.refl _) put_size put_defers (Nat.le_refl _) (Nat.le_refl _) names_same)
    ·cases hs
   ·cases hs
end
end Go.Proofs.Ytggaimcopbjdiaa.AM
namespace Go.Proofs.Ytggaimcopbjdiaa.AM
section
variable {P : Program} {X : Nat → Option Obj} {w0 w w1 w2 : World} {ρ ρ1 ρ2 : Rho} {V : Type → Type} [Vec V] {H H1 H2 : AH V} {T L : List Value} {m m' : OEnv}
 {call : Value → List Value → AH V → Option (Value × AH V)} {share : Bool} {keep : List Nat}
structure Gone (P : Program) (X : Nat → Option Obj) (w0 : World) (ρ : Rho) (H : AH V) (w : World) (ρ' : Rho) (H' : AH V) (w' : World) : Prop where
 le : ρ.le ρ'
 now : Now P X w0 ρ' H' w'
 size : Vec.size H ≤ Vec.size H'
 heap : w.heap.size ≤ w'.heap.size
 names : ∀ b p, ρ' b = some p → ρ b = some p ∨ X p.1 = none
theorem Gone.refl (s : Now P X w0 ρ H w) : Gone P X w0 ρ H w ρ H w := ⟨Rho.le.refl _, s, Nat.le_refl _, Nat.le_refl _, names_same⟩
theorem Gone.trans (a : Gone P X w0 ρ H w ρ1 H1 w1) (b : Gone P X w0 ρ1 H1 w1 ρ2 H2 w2) : Gone P X w0 ρ H w ρ2 H2 w2 :=
 ⟨a.le.trans b.le, b.now, Nat.le_trans a.size b.size, Nat.le_trans a.heap b.heap, fun k p hk => by
  rcases b.names k p hk with h | h
  ·exact a.names k p h
  ·exact .inr h⟩
theorem Did.gone {v v' : Value} (d : Did P X w0 ρ H H1 w v ρ1 v' w1) : Gone P X w0 ρ H w ρ1 H1 w1 := ⟨d.le, d.now, d.size, d.heap, d.names⟩
inductive DRel (ρ : Rho) : List Nat → List Deferred → Prop
 | nil : DRel ρ [] []
 | cons {d cb co : Nat} {D : Deferred} {ds : List Nat} {Ds : List Deferred} (h : ρ d = some (cb, co)) (ht : D.target = .collected cb) (t : DRel ρ ds Ds) : DRel ρ (d :: ds) (D :: Ds)
theorem DRel.mono {ds : List Nat} {Ds : List Deferred} (h : DRel ρ ds Ds) (hl : ρ.le ρ1) : DRel ρ1 ds Ds := by
 induction h with
 | nil => exact .nil
 | cons h ht _ ih => exact .cons (hl _ _ h).1 ht ih
def AE.exit' : AE → Exit
 | .norm => .normal
 | .exit id => .exit id
 | .goto l => .goto l
 | .ret => .ret
def Post (P : Program) (X : Nat → Option Obj) (w0 : World) (ρ : Rho) (H : AH V) (w : World) (keep : List Nat) (nt : Nat) (e : AE) (T' : AT) (H' : AH V) (ds' : List Nat) : Exit → Act → World → Prop :=
 fun ex a' w' => ex = e.exit' ∧ ∃ ρ', Gone P X w0 ρ H w ρ' H' w' ∧ TRel ρ' keep T' a'.tmps ∧ nt ≤ a'.tmps.size ∧ DRel ρ' ds' a'.defers
theorem find_entry_aux (t : Nat) : ∀ (keep : List Nat) (k : Nat), OEnv.find ((keep.zipIdx k).map fun (t, i) => (t, Org.tmp i)) t = (keep.idxOf? t).map fun i => .tmp (k + i)
 | [], k => rfl
 | u :: keep, k => by
   rw [List.zipIdx_cons, List.map_cons, find_cons, List.idxOf?_cons, find_entry_aux t keep (k + 1)]
   by_cases e : u = t
   ·subst e; simp
   ·rw [if_neg e]
    have : (u == t) = false := by simpa using e
    simp only [this]
    cases keep.idxOf? t with
    | none => rfl
    | some i =>
      simp only [Option.map_some, Bool.false_eq_true, if_false, Option.some.injEq, Org.tmp.injEq]
      omega
theorem find_entry (keep : List Nat) (t : Nat) : (entry keep).find t = (keep.idxOf? t).map .tmp := by
 have := find_entry_aux t keep 0
 simpa [entry] using this
theorem TRel.mrel {tmps : Array Value} (h : TRel ρ keep T tmps) : MRel ρ (entry keep) T [] tmps := by
 intro t x hx
 rw [find_entry] at hx
 cases hi : keep.idxOf? t with
 | none => rw [hi] at hx; cases hx
 | some i =>
   rw [hi] at hx
   injection hx with hx
   subst hx
   exact h t i hi
def bk (m : OEnv) (n : Nat) (p : Nat × Nat) : Option (Nat × Src) := match m.find p.1 with
 | some (.tmp j) => if p.2 == j then none else some (p.2, .tmp j)
 | some x => some (p.2, x.src n)
 | none => none
theorem backOf_eq (keep : List Nat) (m : OEnv) (n : Nat) : backOf keep m n = (keep.zipIdx 0).filterMap (bk m n) := rfl
theorem aback_get {T0 L : List Value} : ∀ (l : List Nat) (k : Nat) (T T' : List Value), aback T0 L ((l.zipIdx k).filterMap (bk m L.length)) T = some T' → (∀ i, k ≤ i → T[i]? = T0[i]?) →
  T'.length = T.length ∧ (∀ i, i < k → T'[i]? = T[i]?) ∧ (∀ (j t : Nat) (x : Org) (v : Value), l[j]? = some t → m.find t = some x → oval T0 L x = some v → k + j < T.length → T'[k + j]? = some v)
 | [], k, T, T', h, hT => by
   simp only [List.zipIdx_nil, List.filterMap_nil, aback, Option.some.injEq] at h
   subst h
   exact ⟨rfl, fun _ _ => rfl, fun j t x v hj => by simp at hj⟩
 | t :: l, k, T, T', h, hT => by
   rw [List.zipIdx_cons] at h
   cases hb : bk m L.length (t, k) with
   | none =>
     rw [List.filterMap_cons_none hb] at h
     obtain ⟨h1, h2, h3⟩ := aback_get l (k + 1) T T' h (fun i hi => hT i (by omega))
     refine ⟨h1, fun i hi => h2 i (by omega), fun j t' x v hj hx hv hlt => ?_⟩
     cases j with
     | zero =>
       simp at hj
       subst hj
       rw [Nat.add_zero, h2 k (by omega), hT k (Nat.le_refl _)]
       unfold bk at hb
       simp only [hx] at hb
       cases x with
       | tmp i =>
         simp only at hb
         split at hb
         ·rename_i e
          have : k = i := by simpa using e
          subst this
          exact hv
         ·cases hb
       | _ => cases hb
     | succ j =>
       have := h3 j t' x v (by simpa using hj) hx hv (by omega)
       rw [← this]; congr 1; omega
   | some q =>
     rw [List.filterMap_cons_some hb] at h
     have hq : ∃ x, m.find t = some x ∧ q = (k, x.src L.length) := by
      unfold bk at hb
      simp only at hb
      split at hb
      ·split at hb
       ·cases hb
       ·injection hb with hb; exact ⟨.tmp _, ‹_›, hb.symm⟩
      ·injection hb with hb; exact ⟨_, ‹_›, hb.symm⟩
      ·cases hb
     obtain ⟨x0, hx0, rfl⟩ := hq
     unfold aback at h
     split at h
     ·rename_i u hu
      obtain ⟨h1, h2, h3⟩ := aback_get l (k + 1) (T.set k u) T' h (fun i hi => by rw [List.getElem?_set_ne (by omega)]; exact hT i (by omega))
      rw [List.length_set] at h1
      refine ⟨h1, fun i hi => by rw [h2 i (by omega), List.getElem?_set_ne (by omega)], fun j t' x v hj hx hv hlt => ?_⟩
      cases j with
      | zero =>
        simp at hj
        subst hj
        rw [hx0] at hx
        cases hx
        rw [Nat.add_zero] at hlt ⊢
        rw [h2 k (by omega), List.getElem?_set_self hlt, ← hu, oval_src hv]
      | succ j =>
        have := h3 j t' x v (by simpa using hj) hx hv (by rw [List.length_set]; omega)
        rw [← this]; congr 1; omega
     ·cases h
theorem idx_get : ∀ {keep : List Nat} {t i : Nat}, keep.idxOf? t = some i → keep[i]? = some t
 | [], t, i, h => by cases h
 | u :: keep, t, i, h => by
   rw [List.idxOf?_cons] at h
   by_cases e : u = t
   ·subst e
    simp at h
    subst h
    rfl
   ·have : (u == t) = false := by simpa using e
    simp only [this, Bool.false_eq_true, if_false] at h
    cases hq : keep.idxOf? t with
    | none => rw [hq] at h; cases h
    | some j =>
      rw [hq] at h
      injection h with h
      subst h
      simpa using idx_get hq
theorem back_rel {tmps tmps' : Array Value} {T' : List Value} (h0 : TRel ρ keep T tmps) (hm : MRel ρ1 m T L tmps') (hdef : ∀ t, keep.idxOf? t ≠ none → m.find t ≠ none) (hb : aback T L (backOf keep m L.length) T = some T') : TRel ρ1 keep T' tmps' := by
 intro t i hi
 obtain ⟨h1, h2, h3⟩ := aback_get keep 0 T T' (by rw [← backOf_eq]; exact hb) (fun _ _ => rfl)
 obtain ⟨v0, _, hv0, _⟩ := h0 t i hi
 have hlt : i < T.length := (List.getElem?_eq_some_iff.1 hv0).1
 cases hx : m.find t with
 | none => exact absurd hx (hdef t (by rw [hi]; simp))
 | some x =>
   obtain ⟨v, v', q1, q2, q3⟩ := hm t x hx
   have := h3 i t x v (idx_get hi) hx q1 (by omega)
   rw [Nat.zero_add] at this
   exact ⟨v, v', this, q2, q3⟩
theorem someOps_find {ops : Array Oper} : ∀ {l : List (Oper × Nat)} {m m' : OEnv} {k k' : Nat} {al : List AOper}, someOps P share ops l m k = some (al, m', k') → ∀ t, m.find t ≠ none → m'.find t ≠ none
 | [], m, m', k, k', al, h, t, ht => by
   simp only [someOps, Option.some.injEq, Prod.mk.injEq] at h
   rw [← h.2.1]; exact ht
 | (o, lo) :: l, m, m', k, k', al, h, t, ht => by
   have hs : ∀ x, (setOrg m o.dst x).find t ≠ none := fun x => by
    rw [find_setOrg]
    split
    ·simp
    ·exact ht
   simp only [someOps] at h
   split at h
   ·exact someOps_find h t (hs _)
   ·split at h
    ·rename_i h1
     simp only [Option.some.injEq, Prod.mk.injEq] at h
     rw [← h.2.1]
     exact someOps_find h1 t (hs _)
    ·cases h
   ·cases h
theorem region_sound {ops : Array Oper} {al : List AOper} {back : List (Nat × Src)} (hcall : CallOk P call) {id nt : Nat} {r : Option Nat} {n : Nat} {a : Act} {ds : List Nat} {res : Res V}
  (hc : compileRegion P share keep ops false = .region al back) (hr : sRegion T back ds (aops P call T al [] H) = some res)
  (hT : TRel ρ keep T a.tmps) (hn : Now P X w0 ρ H w) (hnt : nt ≤ a.tmps.size) (hd : (ops.toList.all fun o => match o.dst with | some d => Nat.blt d nt | none => true) = true) (hD : DRel ρ ds a.defers) :
  (Code.region id ops false).wpIn (FW r) n P (Post P X w0 ρ H w keep nt res.e res.T res.H res.ds) a w := by
 unfold compileRegion at hc
 simp only [Bool.false_eq_true, if_false] at hc
 split at hc
 ·rename_i l m k hs
  injection hc with h1 h2
  subst h1; subst h2
  unfold sRegion at hr
  split at hr
  ·rename_i L' H' ha
   split at hr
   ·rename_i T' hb
    injection hr with hr
    subst hr
    refine wpIn_region_list (list_sound hcall hs rfl ha hT.mrel hn hnt (fun o ho d hd0 => ?_) fun ρ' a' w' g1 g2 g3 g4 g5 g6 g7 g8 g9 => ?_)
    ·have := List.all_eq_true.1 hd o ho
     rw [hd0] at this
     simp only [Nat.blt_eq] at this
     exact this
    ·subst g9
     refine ⟨rfl, ρ', ⟨g1, g3, g6, g7, g8⟩, back_rel hT g2 (fun t ht => someOps_find hs t ?_) hb, by rw [g4]; exact hnt, by rw [g5]; exact hD.mono g1⟩
     rw [find_entry]
     cases hq : keep.idxOf? t with
     | none => exact absurd hq ht
     | some i => simp
   ·cases hr
  ·cases hr
 ·cases hc
end
end Go.Proofs.Ytggaimcopbjdiaa.AM
namespace Go.Proofs.Ytggaimcopbjdiaa.AM
section
variable {P : Program} {X : Nat → Option Obj} {w0 w w1 w2 : World} {ρ ρ1 ρ2 : Rho} {V : Type → Type} [Vec V] {H H1 H2 : AH V} {T L : List Value} {h : Nat → Blk}
 {share : Bool} {keep : List Nat} {F : Fence} {n : Nat} {Q : Exit → Act → World → Prop} {a : Act}
theorem stepR_scope {b : Frame} {a : Act} {k : List Item} {cs : List Frame} {c : Code} : step P (lone (b.atR a (.code (.scope c) :: k)) cs w) = .next (lone (b.atR a (.code c :: .inScope c :: k)) cs w) :=
 step_lone_go (by simp [stepG, stepG.exec, Frame.atR])
theorem stepR_inScope {b : Frame} {a : Act} {k : List Item} {cs : List Frame} {c : Code} : step P (lone (b.atR a (.inScope c :: k)) cs w) = .next (lone (b.atR a k) cs w) :=
 step_lone_go (by simp [stepG, stepG.exec, Frame.atR])
def ScopeIn (F : Fence) (n : Nat) (P : Program) (c cur : Code) (Q : Exit → Act → World → Prop) (a : Act) (w : World) : Prop :=
 ∀ (b : Frame) (k : List Item) (cs : List Frame), b.roundOf = F.round → F.fn b.fn → F.room (cs.length + 1 + n) →
  ∃ e a' w', Q e a' w' ∧ ArrivesIn (Machine.fenced P F) P (lone (b.atR a (.code cur :: .inScope c :: k)) cs w) b k cs e a' w'
theorem wpIn_scope_of {c : Code} (h : ScopeIn F n P c c Q a w) : (Code.scope c).wpIn F n P Q a w := fun b k cs hro hb hr =>
 let ⟨e, a', w', q, r⟩ := h b k cs hro hb hr
 ⟨e, a', w', q, .of_steps (.one (fenced_calm hb hr rfl) stepR_scope) r⟩
def Exit.inScope' (F : Fence) (n : Nat) (P : Program) (c : Code) (Q : Exit → Act → World → Prop) : Exit → Act → World → Prop
 | .goto l, a, w => match findLabel c l with
   | some rest => ScopeIn F n P c rest Q a w
   | none => Q (.goto l) a w
 | e, a, w => Q e a w
theorem scopeIn_of {c cur : Code} (h : cur.wpIn F n P (Exit.inScope' F n P c Q) a w) : ScopeIn F n P c cur Q a w := by
 intro b k cs hro hb hr
 obtain ⟨e, a1, w1, hq, harr⟩ := h b (.inScope c :: k) cs hro hb hr
 cases e with
 | normal => exact ⟨.normal, a1, w1, hq, StepsIn.trans harr (.one (fenced_calm hb hr rfl) stepR_inScope)⟩
 | exit id =>
   have hx : exitTo id (.inScope c :: k) = exitTo id k := by simp [exitTo]
   exact ⟨.exit id, a1, w1, hq, fun k' hk => harr.1 k' (by rw [hx]; exact hk), fun hr' hk => harr.2 hr' (by rw [hx]; exact hk)⟩
 | goto l =>
   simp only [Exit.inScope'] at hq
   split at hq
   ·rename_i rest hf
    obtain ⟨e2, a2, w2, hq2, harr2⟩ := hq b k cs hro hb hr
    exact ⟨e2, a2, w2, hq2, .of_steps (harr.1 _ (by simp [gotoIn, hf])) harr2⟩
   ·rename_i hf
    have hx : gotoIn l (.inScope c :: k) = gotoIn l k := by simp [gotoIn, hf]
    exact ⟨.goto l, a1, w1, hq, fun k' hk => harr.1 k' (by rw [hx]; exact hk), fun hr' hk => harr.2 hr' (by rw [hx]; exact hk)⟩
 | ret => exact ⟨_, a1, w1, hq, harr⟩
 | panic ch => exact ⟨_, a1, w1, hq, harr⟩
 | outgrown => exact ⟨_, a1, w1, hq, harr⟩
theorem afind_compile (P : Program) (share : Bool) (keep : List Nat) (l : Nat) : ∀ (c : Code), afind (compile P share keep c) l = (findLabel c l).map (compile P share keep)
 | .seq a b => by
   simp only [compile, afind, findLabel, afind_compile P share keep l a, afind_compile P share keep l b]
   cases findLabel a l <;> rfl
 | .label l' => by
   simp only [compile, afind, findLabel]
   split <;> rfl
 | .skip => rfl
 | .region id ops d => by
   rw [show findLabel (.region id ops d) l = none from rfl]
   simp only [compile, compileRegion]
   (repeat' split) <;> rfl
 | .cond c a b => by
   rw [show findLabel (.cond c a b) l = none from rfl]
   simp only [compile]
   split <;> rfl
 | .block _ _ => rfl
 | .loop _ => rfl
 | .rangeFunc g ps a b => by
   rw [show findLabel (.rangeFunc g ps a b) l = none from rfl]
   simp only [compile]
   split <;> rfl
 | .exit _ => rfl
 | .scope _ => rfl
 | .goto _ => rfl
 | .ret => rfl
 | .refuse _ => rfl
theorem cOk_find {nt l : Nat} : ∀ {c r : Code}, findLabel c l = some r → cOk nt c = true → cOk nt r = true
 | .seq a b, r, h, hc => by
   simp only [cOk, Bool.and_eq_true] at hc
   simp only [findLabel] at h
   split at h
   ·rename_i rest hr
    injection h with h
    subst h
    simp only [cOk, Bool.and_eq_true]
    exact ⟨cOk_find hr hc.1, hc.2⟩
   ·exact cOk_find h hc.2
 | .label l', r, h, hc => by
   simp only [findLabel] at h
   split at h
   ·injection h with h; subst h; rfl
   ·cases h
 | .skip, r, h, _ => by cases h
 | .region .., r, h, _ => by cases h
 | .cond .., r, h, _ => by cases h
 | .block .., r, h, _ => by cases h
 | .loop .., r, h, _ => by cases h
 | .rangeFunc .., r, h, _ => by cases h
 | .exit .., r, h, _ => by cases h
 | .scope .., r, h, _ => by cases h
 | .goto .., r, h, _ => by cases h
 | .ret, r, h, _ => by cases h
 | .refuse .., r, h, _ => by cases h
def setBlk (w : World) (r : Nat) (o : Obj) : World := { w with heap := w.heap.setIfInBounds r o }
theorem setBlk_get (w : World) {r : Nat} (o : Obj) (hr : r < w.heap.size) (k : Nat) : (setBlk w r o).heap[k]? = if k = r then some o else w.heap[k]? := by
 simp only [setBlk, Array.getElem?_setIfInBounds]
 by_cases e : r = k
 ·subst e; rw [if_pos rfl, if_pos rfl, if_pos hr]
 ·rw [if_neg e, if_neg (fun x => e x.symm)]
def isMark : Blk → Prop
 | .loop .. => True
 | .defr => True
 | _ => False
theorem St.turn (s : St P X w0 ρ h w) {b cb co : Nat} (hp : ρ b = some (cb, co)) (hm : isMark (h b)) (o : Obj) {B : Blk} (hB : BRel P X ρ (setBlk w cb o) (cb, co) B) (hk : isMark B ∨ B = .dead) : St P X w0 ρ (setB h b B) (setBlk w cb o) := by
 have hlt := s.dom b _ hp
 have hblk := s.blk b _ hp
 have hX : X cb = none := by
  cases hh : h b with
  | loop => rw [hh] at hblk; exact hblk.1
  | defr => rw [hh] at hblk; exact hblk.1
  | dead => rw [hh] at hm; exact hm.elim
  | arr => rw [hh] at hm; exact hm.elim
 refine s.change hp hX B rfl rfl rfl (by simp [setBlk]) (fun k hk => by rw [setBlk_get w o hlt, if_neg hk]) hB (fun b' p' hne hp' hq => ?_) (fun cs lo hb => ?_)
 ·have hd : h b' = .dead := by
   have := s.sep b b' _ _ (Ne.symm hne) hp hp' hq.symm
   cases hh : h b with
   | loop => rw [hh] at this; exact this
   | defr => rw [hh] at this; exact this
   | dead => rw [hh] at hm; exact hm.elim
   | arr => rw [hh] at hm; exact hm.elim
  rw [hd]
  refine ⟨trivial, ?_, trivial, fun _ _ hf => by cases hf⟩
  cases B with
  | loop => rfl
  | defr => rfl
  | dead => trivial
  | arr => rcases hk with hk | hk <;> cases hk
 ·subst hb
  rcases hk with hk | hk <;> cases hk
theorem run_getLoop {cl : Nat} {r : Loop} (hr : w.heap[cl]? = some (.loop r)) : (Instr.getLoop cl).run P w = .ok r w := by
 simp [Instr.getLoop, getObj, Sem.run, hr]
theorem run_setLoop {cl : Nat} {r : Loop} (hr : w.heap[cl]? = some (.loop r)) (o : Obj) : (setObj cl o).run P w = .ok () (setBlk w cl o) := by
 simp [setObj, Sem.run, hr, setBlk]
theorem run_beginRound {cl : Nat} {r : Loop} (hr : w.heap[cl]? = some (.loop r)) (hs : r.state = .ready) : (Instr.beginRound cl).run P w = .ok () (setBlk w cl (.loop { r with state := .busy })) := by
 simp only [Instr.beginRound, Sem.run_bind, run_getLoop hr, Result.andThen_ok, run_setLoop hr, hs, Sem.run_pure]
theorem run_endRound {cl : Nat} {r : Loop} (hr : w.heap[cl]? = some (.loop r)) (j : Option Code) :
  (Instr.endRound cl j).run P w = .ok (.bool j.isNone) (setBlk w cl (.loop { r with state := if j.isNone then .ready else .done, pending := j })) := by
 simp only [Instr.endRound, Sem.run_bind, run_getLoop hr, Result.andThen_ok, run_setLoop hr, Sem.run_pure]
theorem run_endLoop {cl : Nat} {r : Loop} (hr : w.heap[cl]? = some (.loop r)) (hs : r.state ≠ .busy) :
  (Instr.endLoop cl).run P w = .ok r.pending (setBlk w cl (.loop { r with state := .exhausted })) := by
 have : (r.state == .busy) = false := by
  cases hq : r.state <;> first | rfl | exact absurd hq hs
 simp only [Instr.endLoop, Sem.run_bind, run_getLoop hr, Result.andThen_ok, this, Bool.false_eq_true, if_false, run_setLoop hr, Sem.run_pure]
theorem run_take {cb : Nat} (hr : w.heap[cb]? = some (.deferred (some []))) : (Instr.takeDeferred cb).run P w = .ok [] (setBlk w cb (.deferred none)) := by
 simp [Instr.takeDeferred, getObj, setObj, Sem.run, hr, setBlk]
theorem TRel.set1 {tmps : Array Value} (hT : TRel ρ keep T tmps) {t : Nat} {v v' : Value} (hv : VRel ρ v v') :
  TRel ρ keep (match keep.idxOf? t with | some p => T.set p v | none => T) (tmps.setIfInBounds t v') := by
 intro t' i hi
 obtain ⟨u, u', h1, h2, h3⟩ := hT t' i hi
 by_cases e : t = t'
 ·subst e
  rw [hi]
  refine ⟨v, v', ?_, ?_, hv⟩
  ·simp only
   rw [List.getElem?_set_self (List.getElem?_eq_some_iff.1 h1).1]
  ·rw [Array.getElem?_setIfInBounds, if_pos rfl, if_pos (Array.getElem?_eq_some_iff.1 h2).1]
 ·refine ⟨u, u', ?_, ?_, h3⟩
  ·split
   ·rename_i p hp
    have hpi : p ≠ i := fun e2 => by
     subst e2
     have q1 := idx_get hp
     have q2 := idx_get hi
     rw [q1] at q2
     injection q2 with q2
     exact e q2
    rw [List.getElem?_set_ne hpi]
    exact h1
   ·exact h1
  ·rw [Array.getElem?_setIfInBounds, if_neg e]
   exact h2
theorem setParams_rel : ∀ {ps : List Nat} {T T1 : List Value} {tmps : Array Value} {args args' : List Value}, TRel ρ keep T tmps → VRels ρ args args' → setParams T (ps.map fun t => keep.idxOf? t) args = some T1 →
  args'.length = ps.length ∧ TRel ρ keep T1 ((ps.zip args').foldl (fun tmps (t, a) => tmps.setIfInBounds t a) tmps) ∧ ((ps.zip args').foldl (fun tmps (t, a) => tmps.setIfInBounds t a) tmps).size = tmps.size
 | [], T, T1, tmps, args, args', hT, hv, h => by
   cases hv with
   | nil => simp [setParams] at h; subst h; exact ⟨rfl, hT, rfl⟩
   | cons _ _ => simp [setParams] at h
 | t :: ps, T, T1, tmps, args, args', hT, hv, h => by
   cases hv with
   | nil =>
     simp only [List.map_cons] at h
     cases hk : keep.idxOf? t <;> rw [hk] at h <;> simp [setParams] at h
   | @cons v v' l l' hv ht =>
     have h1 := hT.set1 (t := t) hv
     have key : setParams (match keep.idxOf? t with | some p => T.set p v | none => T) (ps.map fun t => keep.idxOf? t) l = some T1 := by
      simp only [List.map_cons] at h
      cases hk : keep.idxOf? t <;> rw [hk] at h <;> simpa only [setParams] using h
     obtain ⟨q1, q2, q3⟩ := setParams_rel h1 ht key
     exact ⟨by simp [q1], q2, by rw [List.zip_cons_cons, List.foldl_cons, q3]; simp⟩
def resOne (tmps : Array Value) : ResultVar → Sem Value
 | .tmp t => pure (tmps.getD t undef)
 | .cell a t => do loadVar t (← asAddr (tmps.getD a undef))
theorem results_eq (fn : Func) (tmps : Array Value) : results fn tmps = (do let vs ← fn.results.mapM (resOne tmps); pure (if h : vs.size = 1 then vs[0] else .tuple vs)) := by
 unfold results
 congr 1
def aresOne (T : AT) (H : AH V) : ARes → Option Value
 | .tmp t => T[t]?
 | .cell t n => x1 (aload H n) (T[·]?) t
theorem res_one (s : Now P X w0 ρ H w) {tmps : Array Value} (hT : TRel ρ keep T tmps) {rv : ResultVar} {ar : ARes} (hc : compileRes P keep rv = some ar) {v : Value} (hv : aresOne T H ar = some v) :
  ∃ v', VRel ρ v v' ∧ (resOne tmps rv).run P w = .ok v' w := by
 cases rv with
 | tmp t =>
   simp only [compileRes] at hc
   cases hk : keep.idxOf? t with
   | none => rw [hk] at hc; cases hc
   | some i =>
     rw [hk] at hc
     injection hc with hc
     subst hc
     obtain ⟨u, u', h1, h2, h3⟩ := hT t i hk
     simp only [aresOne] at hv
     rw [h1] at hv
     cases hv
     exact ⟨u', h3, by simp [resOne, Array.getD_eq_getD_getElem?, h2]⟩
 | cell c t =>
   simp only [compileRes] at hc
   split at hc
   ·rename_i i n hk hn
    injection hc with hc
    subst hc
    simp only [aresOne] at hv
    obtain ⟨p, hp, hl⟩ := x1_some hv
    obtain ⟨u, u', h1, h2, h3⟩ := hT c i hk
    skip
    rw [h1] at hp
    cases hp
    obtain ⟨v', hr, hrun⟩ := load_sound (P := P) s.st hn h3 (fun b B _ hb => view_some hb) hl
    refine ⟨v', hr, ?_⟩
    have hu : tmps.getD c undef = u' := by simp [Array.getD_eq_getD_getElem?, h2]
    unfold aload at hl
    split at hl
    case h_2 => cases hl
    obtain ⟨b', o', cb, co, hq, hρ, rfl⟩ := h3.ptr_some
    simpa only [resOne, hu, asAddr, Instr.loadAt, Instr.sureAddr, Sem.run_bind, Sem.run_pure, Result.andThen_ok] using hrun
   ·cases hc
theorem res_all (s : Now P X w0 ρ H w) {tmps : Array Value} (hT : TRel ρ keep T tmps) : ∀ {rvs : List ResultVar} {ars : List ARes} {vs : List Value}, mapOpt (compileRes P keep) rvs = some ars → ares T H ars = some vs →
  ∃ vs', VRels ρ vs vs' ∧ (rvs.mapM (resOne tmps)).run P w = .ok vs' w
 | [], ars, vs, hc, hv => by
   simp only [mapOpt, Option.some.injEq] at hc
   subst hc
   simp only [ares, Option.some.injEq] at hv
   subst hv
   exact ⟨[], .nil, rfl⟩
 | rv :: rvs, ars, vs, hc, hv => by
   unfold mapOpt at hc
   split at hc
   ·rename_i ar h1
    split at hc
    ·rename_i ars' h2
     injection hc with hc
     subst hc
     simp only [ares] at hv
     split at hv
     ·rename_i v hv1
      split at hv
      ·rename_i vs1 hv2
       injection hv with hv
       subst hv
       obtain ⟨v', q1, q2⟩ := res_one s hT h1 (show aresOne T H ar = some v by cases ar <;> exact hv1)
       obtain ⟨vs', q3, q4⟩ := res_all s hT h2 hv2
       refine ⟨v' :: vs', .cons q1 q3, ?_⟩
       rw [List.mapM_cons, Sem.run_bind, q2, Result.andThen_ok, Sem.run_bind, q4, Result.andThen_ok]
       rfl
      ·cases hv
     ·cases hv
    ·cases hc
   ·cases hc
theorem pack_rel {vs vs' : List Value} (h : VRels ρ vs vs') : VRel ρ (pack vs) (if h : vs'.toArray.size = 1 then vs'.toArray[0] else .tuple vs'.toArray) := by
 cases h with
 | nil => exact .tup .nil
 | cons h t =>
   cases t with
   | nil => exact h
   | cons h2 t2 => exact .tup (.cons h (.cons h2 t2))
theorem results_sound (s : Now P X w0 ρ H w) {tmps : Array Value} (hT : TRel ρ keep T tmps) {fn : Func} {ars : List ARes} {vs : List Value} (hc : mapOpt (compileRes P keep) fn.results.toList = some ars) (hv : ares T H ars = some vs) :
  ∃ v', VRel ρ (pack vs) v' ∧ (results fn tmps).run P w = .ok v' w := by
 obtain ⟨vs', h1, h2⟩ := res_all s hT hc hv
 refine ⟨_, pack_rel h1, ?_⟩
 rw [results_eq, Array.mapM_eq_mapM_toList, Sem.run_bind, Sem.run_map, h2]
 rfl
end
end Go.Proofs.Ytggaimcopbjdiaa.AM
namespace Go.Proofs.Ytggaimcopbjdiaa.AM
section
variable {P : Program} {V : Type → Type} [Vec V]
def CallsOk (P : Program) (f : FuncId) (args : List Value) (H : AH V) (v : Value) (H' : AH V) : Prop :=
 (∃ fn c, P.funcs[f]? = some fn ∧ fn.body = some c ∧ (fn.name == "runtime.NumGoroutine") = false) ∧
 ∀ (X : Nat → Option Obj) (w0 : World) (ρ : Rho) (w : World) (args' : List Value), VRels ρ args args' → Now P X w0 ρ H w →
  ∀ r n, CallsIn (FW r) n P f args'.toArray w (OnlyReturns fun v' w' => ∃ ρ', Did P X w0 ρ H H' w v ρ' v' w')
def RoundOk (P : Program) (l : Nat) (args : List Value) (H : AH V) (v : Value) (H' : AH V) : Prop :=
 ∀ (X : Nat → Option Obj) (w0 : World) (ρ : Rho) (w : World) (args' : List Value) (cl co : Nat), ρ l = some (cl, co) → VRels ρ args args' → Now P X w0 ρ H w →
  ∃ nx, (Instr.yield cl args'.toArray).run P w = .ok nx w ∧ ∀ r n, Upon r n P w (fun v' w' => ∃ ρ', Did P X w0 ρ H H' w v ρ' v' w') nx
structure CtxOk (P : Program) (keep : List Nat) (inR : Bool) (T : AT) (H : AH V) (ds : List Nat) (X : Nat → Option Obj) (w0 : World) (ρ : Rho) (w : World) (a : Act) (nt : Nat) (r : Option Nat) : Prop where
 out : inR = false → r = none
 tmps : TRel ρ keep T a.tmps
 now : Now P X w0 ρ H w
 nt : nt ≤ a.tmps.size
 defers : DRel ρ ds a.defers
def CodeOk (P : Program) (inR : Bool) (c : ACode) (T : AT) (H : AH V) (ds : List Nat) (res : Res V) : Prop :=
 ∀ (share : Bool) (keep : List Nat) (cc : Code), c = compile P share keep cc → ∀ (X : Nat → Option Obj) (w0 : World) (ρ : Rho) (w : World) (a : Act) (nt : Nat) (r : Option Nat) (n : Nat), cOk nt cc = true →
  CtxOk P keep inR T H ds X w0 ρ w a nt r → cc.wpIn (FW r) n P (Post P X w0 ρ H w keep nt res.e res.T res.H res.ds) a w
def LoopIn (F : Fence) (n : Nat) (P : Program) (c : Code) (Q : Exit → Act → World → Prop) (a : Act) (w : World) : Prop :=
 ∀ (b : Frame) (k : List Item) (cs : List Frame), b.roundOf = F.round → F.fn b.fn → F.room (cs.length + 1 + n) →
  ∃ e a' w', Q e a' w' ∧ ArrivesIn (Machine.fenced P F) P (lone (b.atR a (.code c :: .inLoop c :: k)) cs w) b k cs e a' w'
def LoopOk (P : Program) (inR : Bool) (c : ACode) (T : AT) (H : AH V) (ds : List Nat) (res : Res V) : Prop :=
 ∀ (share : Bool) (keep : List Nat) (cc : Code), c = compile P share keep cc → ∀ (X : Nat → Option Obj) (w0 : World) (ρ : Rho) (w : World) (a : Act) (nt : Nat) (r : Option Nat) (n : Nat), cOk nt cc = true →
  CtxOk P keep inR T H ds X w0 ρ w a nt r → LoopIn (FW r) n P cc (Post P X w0 ρ H w keep nt res.e res.T res.H res.ds) a w
def ScopeOk (P : Program) (inR : Bool) (b cur : ACode) (T : AT) (H : AH V) (ds : List Nat) (res : Res V) : Prop :=
 ∀ (share : Bool) (keep : List Nat) (cb cc : Code), b = compile P share keep cb → cur = compile P share keep cc → ∀ (X : Nat → Option Obj) (w0 : World) (ρ : Rho) (w : World) (a : Act) (nt : Nat) (r : Option Nat) (n : Nat), cOk nt cb = true → cOk nt cc = true →
  CtxOk P keep inR T H ds X w0 ρ w a nt r → ScopeIn (FW r) n P cb cc (Post P X w0 ρ H w keep nt res.e res.T res.H res.ds) a w
structure AllOk (E : Env V) (N : Nat) : Prop where
 code : ∀ inR c T H ds res, arun E N (.code inR c T H ds) = some res → CodeOk E.P inR c T H ds res
 loop : ∀ inR c T H ds res, arun E N (.code inR (.loop c) T H ds) = some res → LoopOk E.P inR c T H ds res
 scope : ∀ inR b cur T H ds res, arun E N (.scope inR b cur T H ds) = some res → ScopeOk E.P inR b cur T H ds res
 call : ∀ f args H res, arun E N (.call f args H) = some res → CallsOk E.P f args H res.v res.H
 round : ∀ l args H res, arun E N (.round l args H) = some res → RoundOk E.P l args H res.v res.H
def DrawOk (P : Program) (V : Type → Type) [Vec V] : Prop :=
 ∀ (share : Bool) (keep : List Nat) (ops : Array Oper) (al : List AOper) (back : List (Nat × Src)) (call : Value → List Value → AH V → Option (Value × AH V)) (id nt : Nat) (r : Option Nat) (n : Nat) (a : Act) (ds : List Nat) (res : Res V)
  (X : Nat → Option Obj) (w0 : World) (ρ : Rho) (H : AH V) (w : World) (T : AT), CallOk P call → compileRegion P share keep ops true = .draw al back → sRegion T back ds (adraw P call T al [H] [] H) = some res →
  TRel ρ keep T a.tmps → Now P X w0 ρ H w → nt ≤ a.tmps.size → (ops.toList.all fun o => match o.dst with | some d => Nat.blt d nt | none => true) = true → DRel ρ ds a.defers →
  (Code.region id ops true).wpIn (FW r) n P (Post P X w0 ρ H w keep nt res.e res.T res.H res.ds) a w
structure EnvOk (E : Env V) : Prop where
 fn : ∀ f fn, E.fn f = some fn → ∃ share, compileFn E.P share f = some fn
 ext : ∀ f args H v H', E.ext f args H = some (v, H') → CallsOk E.P f args H v H'
 draw : DrawOk E.P V
variable {X : Nat → Option Obj} {w0 w w1 : World} {ρ ρ1 : Rho} {H H1 H2 : AH V} {keep : List Nat} {nt : Nat} {F : Fence} {n : Nat} {Q : Exit → Act → World → Prop} {a : Act}
theorem Post.trans {e : AE} {T' : AT} {H' : AH V} {ds' : List Nat} {ex : Exit} {a' : Act} {w' : World} (g : Gone P X w0 ρ H w ρ1 H1 w1) (h : Post P X w0 ρ1 H1 w1 keep nt e T' H' ds' ex a' w') : Post P X w0 ρ H w keep nt e T' H' ds' ex a' w' :=
 let ⟨h1, ρ', h2, h3⟩ := h; ⟨h1, ρ', g.trans h2, h3⟩
theorem loopIn_of {c : Code} (h : c.wpIn F n P (Exit.then (LoopIn F n P c Q) Q) a w) : LoopIn F n P c Q a w := by
 intro b k cs hro hb hr
 obtain ⟨e, a₁, w₁, hq, harr⟩ := h b (.inLoop c :: k) cs hro hb hr
 cases e with
 | normal =>
   obtain ⟨e₂, a₂, w₂, hq₂, harr₂⟩ := hq b k cs hro hb hr
   exact ⟨e₂, a₂, w₂, hq₂, .of_steps (StepsIn.trans harr (.one (fenced_calm hb hr rfl) stepR_inLoop)) harr₂⟩
 | exit id => exact ⟨_, a₁, w₁, hq, .pass (x := .inLoop c) rfl (fun _ _ => .inl (by simp)) harr⟩
 | goto l => exact ⟨_, a₁, w₁, hq, .pass (x := .inLoop c) rfl (fun _ _ => .inl (by simp)) harr⟩
 | ret => exact ⟨_, a₁, w₁, hq, .pass (x := .inLoop c) rfl (fun _ _ => .inl (by simp)) harr⟩
 | panic ch => exact ⟨_, a₁, w₁, hq, .pass (x := .inLoop c) rfl (fun _ _ => .inl (by simp)) harr⟩
 | outgrown => exact ⟨_, a₁, w₁, hq, .pass (x := .inLoop c) rfl (fun _ _ => .inl (by simp)) harr⟩
theorem wpIn_loop_of {c : Code} (h : LoopIn F n P c Q a w) : (Code.loop c).wpIn F n P Q a w := fun b k cs hro hb hr =>
 let ⟨e, a', w', q, r⟩ := h b k cs hro hb hr
 ⟨e, a', w', q, .of_steps (.one (fenced_calm hb hr rfl) stepR_loop) r⟩
theorem wpIn_code (e : AE) (h : Q e.exit' a w) : (AE.code e).wpIn F n P Q a w := by
 cases e with
 | norm => exact wpIn_skip h
 | exit id => exact wpIn_exit h
 | goto l => exact wpIn_goto h
 | ret => exact wpIn_ret h
theorem then_post {rec : Task V → Option (Res V)} {inR : Bool} {b : ACode} {res1 res : Res V} {r : Option Nat} (hr : sSeq rec inR b (some res1) = some res) {K : Act → World → Prop}
  (hout : inR = false → r = none)
  (hK : ∀ ρ1 a1 w1, rec (.code inR b res1.T res1.H res1.ds) = some res → Gone P X w0 ρ H w ρ1 res1.H w1 → CtxOk P keep inR res1.T res1.H res1.ds X w0 ρ1 w1 a1 nt r → K a1 w1) :
  ∀ ex a1 w1, Post P X w0 ρ H w keep nt res1.e res1.T res1.H res1.ds ex a1 w1 → Exit.then K (Post P X w0 ρ H w keep nt res.e res.T res.H res.ds) ex a1 w1 := by
 intro ex a1 w1 hp
 obtain ⟨e, T1, H1, ds1, v1⟩ := res1
 obtain ⟨hex, ρ1, hg, ht, hnt, hd⟩ := hp
 subst hex
 cases e with
 | norm => exact hK ρ1 a1 w1 hr hg ⟨hout, ht, hg.now, hnt, hd⟩
 | exit id => simp only [sSeq, Option.some.injEq] at hr; subst hr; exact ⟨rfl, ρ1, hg, ht, hnt, hd⟩
 | goto l => simp only [sSeq, Option.some.injEq] at hr; subst hr; exact ⟨rfl, ρ1, hg, ht, hnt, hd⟩
 | ret => simp only [sSeq, Option.some.injEq] at hr; subst hr; exact ⟨rfl, ρ1, hg, ht, hnt, hd⟩
theorem sSeq_some {W : Type → Type} {rec : Task W → Option (Res W)} {inR : Bool} {b : ACode} {r : Option (Res W)} {res : Res W} (h : sSeq rec inR b r = some res) : ∃ res1, r = some res1 := by
 cases r with
 | none => cases h
 | some r => exact ⟨r, rfl⟩
theorem yield_none {l : Nat} {args' : List Value} : (do let d ← Deferred.ofValue (.func (.yield l) #[] #[]) args'.toArray; invoke d.target d.args : Sem Next) = Instr.yield l args'.toArray := by
 simp only [Deferred.ofValue, invoke]
 show Instr.yield l (#[] ++ args'.toArray) = _
 rw [Array.empty_append]
theorem callOk_of {E : Env V} {N : Nat} (ih : AllOk E N) : CallOk E.P (acallV (arun E N)) := by
 intro fv args H v H' hc X w0 ρ w fv' args' hf ha hn
 unfold acallV at hc
 split at hc
 ·rename_i f first captured
  split at hc
  ·rename_i e T H2 ds v2 hr
   simp only [Option.some.injEq, Prod.mk.injEq] at hc
   obtain ⟨rfl, rfl⟩ := hc
   obtain ⟨⟨fn, c, h1, h2, h3⟩, h4⟩ := ih.call _ _ _ _ hr
   obtain ⟨a', c', rfl, hra, hrc⟩ := hf.fn_inv
   have hq := h4 X w0 ρ w (a'.toList ++ args' ++ c'.toList) ((hra.append ha).append hrc) hn
   have ea : (a'.toList ++ args' ++ c'.toList).toArray = a' ++ args'.toArray ++ c' := by apply Array.ext'; simp
   rw [ea] at hq
   exact ⟨.enter f (a' ++ args'.toArray ++ c'), by
    simp only [Deferred.ofValue, Sem.run_bind, Sem.run_pure, Result.andThen_ok, invoke]
    have h5 : fn.name ≠ "runtime.NumGoroutine" := by simpa using h3
    simp [callFunc, h1, h5, h2], hq⟩
  ·cases hc
 ·rename_i l
  split at hc
  ·rename_i e T H2 ds v2 hr
   simp only [Option.some.injEq, Prod.mk.injEq] at hc
   obtain ⟨rfl, rfl⟩ := hc
   have : ∃ cl co, ρ l = some (cl, co) ∧ fv' = .func (.yield cl) #[] #[] := by
    cases hf with
    | flat hff => simp [flat, flat1] at hff
    | yld h => exact ⟨_, _, h, rfl⟩
   obtain ⟨cl, co, hρ, rfl⟩ := this
   obtain ⟨nx, h1, h2⟩ := ih.round _ _ _ _ hr X w0 ρ w args' cl co hρ ha hn
   exact ⟨nx, by rw [yield_none]; exact h1, h2⟩
  ·cases hc
 ·cases hc
end
end Go.Proofs.Ytggaimcopbjdiaa.AM
