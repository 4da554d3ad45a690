/- Lemmas on the way: The heart of the walks: Go code turned by a plain function into a tree of its effects, and a proof that what holds of the tree holds of the code. What holds of the tree of a body holds of the code: the proof. What holds of the tree of a body holds of the code: the proof, second part. The rules by which the tree of a body is walked. -/
import Derived.OrdersIn
import Derived.TacticsIn
import Derived.Below
import Derived.Laws.CopyRow
import Derived.Laws.Cells
import Derived.WalkKit
namespace Go.Xe
open Go

abbrev Hp := Array Obj
abbrev Env := Nat → Value

structure TI where
  desc : TypeDesc
  zero : Value
  size : Nat
  bytes : Nat

abbrev Lay := Nat → Option TI

structure LayOk (L : Lay) (P : Program) : Prop where
  und : ∀ T i, L T = some i → P.underlying T = some i.desc
  inf : ∀ T i, L T = some i → ∃ x, P.info? T = some x ∧ x.zero = some i.zero ∧ x.size = i.size ∧ x.bytes = i.bytes
  zsz : ∀ T i, L T = some i → i.zero.cells.size = i.size
  fld : ∀ T i fs, L T = some i → i.desc = .struct fs → ∀ f, f ∈ fs.toList → ∃ j, L f.type = some j

structure St where
  ρ : Env
  ds : List Deferred

def upd (ρ : Env) (d : Nat) (v : Value) : Env := fun t => bif Nat.beq t d then v else ρ t

def St.put (s : St) : Option Nat → Value → St
  | some d, v => ⟨upd s.ρ d v, s.ds⟩
  | none, _ => s

def ev (ρ : Env) : Operand → Value
  | .tmp t => ρ t
  | .const v => v
  | .global g => .pointer (some ⟨g, 0, none⟩)
  | .func f => .func (.func f) #[] #[]

/-- what one operation does -/
inductive Cl
  | bad
  | pure (v : Value)
  | chk (p : Prop) (v : Value)
  | br (c : Bool) (x y : Value)
  | load (b o : Nat) (i : TI)
  | store (b o : Nat) (i : TI) (v : Value)
  | new (T : Nat) (cells : Array Value) (out : Nat → Value)
  | call (f : Nat) (args : Array Value)
  | round (l : Nat) (args : Array Value)
  | sem (s : Sem Value)
  | semU (s : Sem Unit)

inductive X : Type
  | fail
  | done (e : Exit) (s : St)
  | chk (p : Prop) (x : X)
  | br (c : Bool) (x y : X)
  | both (x y : X)
  | load (b o : Nat) (i : TI) (k : Value → X)
  | store (b o : Nat) (i : TI) (v : Value) (x : X)
  | new (T : Nat) (cells : Array Value) (k : Nat → X)
  | call (e : Option (List Nat)) (f : Nat) (args : Array Value) (k : Value → X)
  | round (l : Nat) (args : Array Value) (k : Value → X)
  | sem (e : Option (List Nat)) (s : Sem Value) (k : Value → X)
  | semU (e : Option (List Nat)) (s : Sem Unit) (x : X)
  | loop (c : Code) (s : St) (k : Exit → St → X)
  | rangeF (g : Operand) (ps : Array Tmp) (as bd : Code) (s : St) (k : Exit → St → X)
  | draw (id : Nat) (ops : Array Oper) (s : St) (k : St → X)

structure Ctx (c w : World) : Prop where
  os : w.os = c.os
  tape : w.tape = c.tape
  output : w.output = c.output

structure Chg (M : List Nat) (h h' : Hp) : Prop where
  size : h.size ≤ h'.size
  same : ∀ b, b < h.size → b ∉ M → h'[b]? = h[b]?

theorem Chg.refl (M : List Nat) (h : Hp) : Chg M h h := ⟨Nat.le_refl _, fun _ _ _ => rfl⟩
theorem Chg.trans {M : List Nat} {a b c : Hp} (x : Chg M a b) (y : Chg M b c) : Chg M a c :=
  ⟨Nat.le_trans x.size y.size, fun k hk hm => (y.same k (Nat.lt_of_lt_of_le hk x.size) hm).trans (x.same k hk hm)⟩
theorem Chg.mono {M M' : List Nat} {a b : Hp} (x : Chg M a b) (h : ∀ k, k ∈ M → k ∈ M') : Chg M' a b :=
  ⟨x.size, fun k hk hm => x.same k hk (fun hh => hm (h k hh))⟩
theorem Chg.of {M : List Nat} {h h' : Hp} (x : Chg M h h') {b : Nat} {o : Obj} (hb : h[b]? = some o) (hm : b ∉ M) : h'[b]? = some o :=
  (x.same b (Array.getElem?_eq_some_iff.1 hb).1 hm).trans hb

/-- what is asked of an operation that others may come ahead of: it changes nothing but D -/
def Kp : Option (List Nat) → Hp → Hp → Prop
  | none, _, _ => True
  | some D, h, h' => Chg D h h'
theorem Kp.refl (e : Option (List Nat)) (h : Hp) : Kp e h h := by cases e <;> first | trivial | exact Chg.refl _ _
theorem Kp.of (e : Option (List Nat)) {h h' : Hp} (x : Chg [] h h') : Kp e h h' := by cases e <;> first | trivial | exact x.mono (fun _ hk => by cases hk)

def Ret (R : Value → World → Prop) : Ending → World → Prop
  | .returned v, w => R v w
  | _, _ => False

/-- a call, said of heaps alone -/
def Call (c : World) (P : Program) (f : Nat) (args : Array Value) (h : Hp) (R : Value → Hp → Prop) : Prop :=
  (∀ as w, (callFunc f as).run P w = .ok (.enter f as) w) ∧ ∀ w, w.heap = h → Ctx c w → Calls P f args w (Ret fun v w' => Ctx c w' ∧ R v w'.heap)

theorem Call.mono {c : World} {P : Program} {f : Nat} {args : Array Value} {h : Hp} {R R' : Value → Hp → Prop} (x : Call c P f args h R) (y : ∀ v h', R v h' → R' v h') :
    Call c P f args h R' := ⟨x.1, fun w hw hc => (x.2 w hw hc).mono fun e w' he => by
  cases e <;> first | exact ⟨he.1, y _ _ he.2⟩ | exact he⟩

/-- reading a variable of type i at o -/
def rd (cs : List Value) (o : Nat) (i : TI) : Option Value :=
  match i.desc with
  | .struct _ | .array _ _ => bif Nat.ble (o + i.size) cs.length then some (.agg ((cs.drop o).take i.size).toArray) else none
  | _ => cs[o]?

def Ld (h : Hp) (b o : Nat) (i : TI) (v : Value) : Prop :=
  ∃ cs T fz, h[b]? = some (.cells cs T fz) ∧ rd cs.toList o i = some v

/-- the cells cs with vs laid at o -/
def wrAt : List Value → Nat → List Value → List Value
  | cs, _, [] => cs
  | [], _, _ => []
  | _ :: cs, 0, v :: vs => v :: wrAt cs 0 vs
  | c :: cs, o + 1, vs => c :: wrAt cs o vs

def Rel (n : Nat) (a : Act) (s : St) : Prop := a.tmps.size = n ∧ a.defers = s.ds ∧ ∀ t, a.tmps.getD t undef = s.ρ t

def Fe (ro : Option Nat) : Fence := { Fence.wide with round := ro }

/-! which temporaries a body may write -/
def opsMod : List Oper → Nat → Bool
  | [], _ => false
  | o :: l, t => (match o.dst with | some d => Nat.beq d t | none => false) || opsMod l t

def modB : Code → Nat → Bool
  | .region _ ops _, t => opsMod ops.toList t
  | .seq a b, t => modB a t || modB b t
  | .cond _ a b, t => modB a t || modB b t
  | .block _ a, t => modB a t
  | .loop a, t => modB a t
  | .scope a, t => modB a t
  | _, _ => false

def memN : List Nat → Nat → Bool
  | [], _ => false
  | v :: l, t => Nat.beq v t || memN l t

def inM (vs : List Nat) (lo hi d : Nat) : Bool := (Nat.ble lo d && Nat.ble d hi) || memN vs d

def opsIn (vs : List Nat) (lo hi : Nat) : List Oper → Bool
  | [] => true
  | o :: l => (match o.dst with | some d => inM vs lo hi d | none => true) && opsIn vs lo hi l

def modsIn (vs : List Nat) (lo hi : Nat) : Code → Bool
  | .region _ ops _ => opsIn vs lo hi ops.toList
  | .seq a b => modsIn vs lo hi a && modsIn vs lo hi b
  | .cond _ a b => modsIn vs lo hi a && modsIn vs lo hi b
  | .block _ a => modsIn vs lo hi a
  | .loop a => modsIn vs lo hi a
  | .scope a => modsIn vs lo hi a
  | _ => true

/-- outside of M the two are the same -/
def Agr (M : Nat → Bool) (s s' : St) : Prop := ∀ t, M t = false → s'.ρ t = s.ρ t

section wp
variable (c : World) (P : Program) (ro : Option Nat) (n : Nat)

def X.wp : X → Hp → (Exit → St → Hp → Prop) → Prop
  | .fail, _, _ => False
  | .done e s, h, Q => Q e s h
  | .chk p x, h, Q => p ∧ x.wp h Q
  | .br b x y, h, Q => (b = true → x.wp h Q) ∧ (b = false → y.wp h Q)
  | .both x y, h, Q => x.wp h Q ∧ y.wp h Q
  | .load b o i k, h, Q => ∃ v, Ld h b o i v ∧ (k v).wp h Q
  | .store b o i v x, h, Q => ∃ cs T, h[b]? = some (.cells cs T (0, 0)) ∧ v.cells.size = i.size ∧ o + i.size ≤ cs.size ∧ (∀ u ∈ v.cells.toList, u.oneCell' = true) ∧
      ∀ h', h'.size = h.size → h'[b]? = some (.cells (wrAt cs.toList o v.cells.toList).toArray T (0, 0)) → (∀ j, j ≠ b → h'[j]? = h[j]?) → x.wp h' Q
  | .new T cells k, h, Q => (k h.size).wp (h.push (.cells cells T)) Q
  | .call e f args k, h, Q => Call c P f args h fun v h' => Kp e h h' ∧ (k v).wp h' Q
  | .round l args k, h, Q => ∀ w, w.heap = h → Ctx c w → ∃ f tmps as bd, (Instr.yield l args).run P w = .ok (.round l f tmps as bd) w ∧
      RoundIn (Fe ro) 0 P l f tmps as bd w (Ret fun v w' => Ctx c w' ∧ (k v).wp w'.heap Q)
  | .sem e s k, h, Q => ∀ w, w.heap = h → Ctx c w → ∃ v w', s.run P w = .ok v w' ∧ Ctx c w' ∧ Kp e h w'.heap ∧ (k v).wp w'.heap Q
  | .semU e s x, h, Q => ∀ w, w.heap = h → Ctx c w → ∃ v w', s.run P w = .ok v w' ∧ Ctx c w' ∧ Kp e h w'.heap ∧ x.wp w'.heap Q
  | .loop cd s k, h, Q => ∀ w a, w.heap = h → Ctx c w → Rel n a s → (Code.loop cd).wpIn (Fe ro) 0 P (fun e a' w' => ∃ s', Rel n a' s' ∧ Agr (modB cd) s s' ∧ s'.ds = s.ds ∧ Ctx c w' ∧ (k e s').wp w'.heap Q) a w
  | .rangeF g ps as bd s k, h, Q => ∀ w a, w.heap = h → Ctx c w → Rel n a s → (Code.rangeFunc g ps as bd).wpIn (Fe ro) 0 P (fun e a' w' => ∃ s', Rel n a' s' ∧ Agr (fun _ => false) s s' ∧ Ctx c w' ∧ (k e s').wp w'.heap Q) a w
  | .draw id ops s k, h, Q => ∀ w a, w.heap = h → Ctx c w → Rel n a s → (Code.region id ops true).wpIn (Fe ro) 0 P (fun e a' w' => ∃ s', e = .normal ∧ Rel n a' s' ∧ Agr (opsMod ops.toList) s s' ∧ s'.ds = s.ds ∧ Ctx c w' ∧ (k s').wp w'.heap Q) a w
end wp

/-! ### what an operation does -/
def fieldOf (i : TI) (f : Nat) : Option Field :=
  match i.desc with
  | .struct fs => fs[f]?
  | _ => none

def cmpI : BinOp → Int → Int → Option Bool
  | .eql, x, y => some (x == y)
  | .neq, x, y => some (x != y)
  | .lss, x, y => some (decide (x < y))
  | .leq, x, y => some (decide (x ≤ y))
  | .gtr, x, y => some (decide (x > y))
  | .geq, x, y => some (decide (x ≥ y))
  | _, _, _ => none


def bitsI (op : BinOp) (k : IntKind) (x y : Int) : Option Int :=
  match op with
  | .and => some (k.wrap (BitVec.ofInt k.bits x &&& BitVec.ofInt k.bits y).toNat)
  | .or => some (k.wrap (BitVec.ofInt k.bits x ||| BitVec.ofInt k.bits y).toNat)
  | .xor => some (k.wrap (BitVec.ofInt k.bits x ^^^ BitVec.ofInt k.bits y).toNat)
  | .andNot => some (k.wrap (BitVec.ofInt k.bits x &&& ~~~(BitVec.ofInt k.bits y)).toNat)
  | _ => none

def byteAt (s : ByteArray) (i : Int) : Int := ((s.data[i.toNat]?).getD 0).toNat

def clInt (op : BinOp) (k : IntKind) (x y : Int) : Cl :=
  match op with
  | .add => .pure (.int k (k.wrap (x + y)))
  | .sub => .pure (.int k (k.wrap (x - y)))
  | .mul => .pure (.int k (k.wrap (x * y)))
  | .quo => .chk (y ≠ 0) (.int k (k.wrap (x.tdiv y)))
  | .rem => .chk (y ≠ 0) (.int k (x.tmod y))
  | .shl => .chk (0 ≤ y) (.int k (k.wrap (x * 2 ^ min y.toNat k.bits)))
  | .shr => .chk (0 ≤ y) (.int k (x.fdiv (2 ^ min y.toNat k.bits)))
  | .eql => .pure (.bool (x == y))
  | .neq => .pure (.bool (x != y))
  | .lss => .pure (.bool (decide (x < y)))
  | .leq => .pure (.bool (decide (x ≤ y)))
  | .gtr => .pure (.bool (decide (x > y)))
  | .geq => .pure (.bool (decide (x ≥ y)))
  | op => match bitsI op k x y with
    | some z => .pure (.int k z)
    | none => .bad

def clStr (op : BinOp) (x y : ByteArray) : Cl :=
  match op with
  | .add => .chk (((x.size + y.size : Nat) : Int) ≤ IntKind.i64.max) (.string (x ++ y))
  | .eql => .pure (.bool (x.toList == y.toList))
  | .neq => .pure (.bool (!(x.toList == y.toList)))
  | .lss => .pure (.bool (Op.bytesLess x.toList y.toList))
  | .leq => .pure (.bool (Op.bytesLess x.toList y.toList || x.toList == y.toList))
  | .gtr => .pure (.bool (!(Op.bytesLess x.toList y.toList || x.toList == y.toList)))
  | .geq => .pure (.bool (!Op.bytesLess x.toList y.toList))
  | _ => .bad

def isShift : BinOp → Bool
  | .shl | .shr => true
  | _ => false

def sameK : IntKind → IntKind → Bool
  | .i64, .i64 | .u8, .u8 | .u64, .u64 | .i8, .i8 | .i16, .i16 | .i32, .i32 | .u16, .u16 | .u32, .u32 => true
  | _, _ => false

/-- a test against nil, of a pointer or of a slice -/
def clNil (op : BinOp) (b : Bool) : Cl :=
  match op with
  | .eql => .pure (.bool b)
  | .neq => .pure (.bool (!b))
  | _ => .bad

def clBin (L : Lay) (op : BinOp) (T : Nat) (xo yo : Operand) (x y : Value) : Cl :=
  match x, y with
  | .int k a, .int k' b => bif isShift op then clInt op k a b else bif sameK k k' then clInt op k a b else .bad
  | .string a, .string b => clStr op a b
  | .bool a, .bool b => match L T, op with
    | some ⟨.bool, _, _, _⟩, .eql => .pure (.bool (a == b))
    | some ⟨.bool, _, _, _⟩, .neq => .pure (.bool (!(a == b)))
    | _, _ => .bad
  | .pointer none, .pointer p => match L T with
    | some ⟨.pointer _, _, _, _⟩ => clNil op p.isNone
    | _ => .bad
  | .pointer (some _), .pointer none => match L T with
    | some ⟨.pointer _, _, _, _⟩ => clNil op false
    | _ => .bad
  | .slice none _ _, .slice p _ _ => match L T with
    | some ⟨.slice _, _, _, _⟩ => clNil op p.isNone
    | _ => .bad
  | .slice (some _) _ _, .slice none _ _ => match L T with
    | some ⟨.slice _, _, _, _⟩ => clNil op false
    | _ => .bad
  | x, y => .sem (do eqGuard op T xo yo x y; binOp op T x y)

def clLen (L : Lay) (ts : List Nat) (x : Value) : Cl :=
  match ts with
  | [T] => match L T, x with
    | some ⟨.string, _, _, _⟩, .string s => .pure (.int .i64 s.size)
    | some ⟨.slice _, _, _, _⟩, .slice _ n _ => .pure (.int .i64 n)
    | some ⟨.array n _, _, _, _⟩, _ => .pure (.int .i64 n)
    | _, _ => .bad
  | _ => .bad

def clIndexAddr (L : Lay) (T : Nat) (x ix : Value) : Cl :=
  match ix with
  | .int _ i => match L T, x with
    | some ⟨.slice e, _, _, _⟩, .slice (some ⟨b, o, none⟩) len _ => match L e with
      | some t => .chk (0 ≤ i ∧ i < len) (.pointer (some ⟨b, o + i.toNat * t.size, none⟩))
      | none => .bad
    | some ⟨.array len e, _, _, _⟩, .pointer (some ⟨b, o, none⟩) => match L e with
      | some t => .chk (0 ≤ i ∧ i < len) (.pointer (some ⟨b, o + i.toNat * t.size, none⟩))
      | none => .bad
    | _, _ => .bad
  | _ => .bad

def clIndex (L : Lay) (T : Nat) (x ix : Value) : Cl :=
  match ix with
  | .int _ i => match L T, x with
    | some ⟨.string, _, _, _⟩, .string s => .chk (0 ≤ i ∧ i < s.size) (.int .u8 (byteAt s i))
    | _, _ => .bad
  | _ => .bad

def clField (L : Lay) (T : Nat) (x : Value) (f : Nat) : Cl :=
  match L T, x with
  | some t, .agg cs => match fieldOf t f with
    | some fd => match L fd.type with
      | some ft => match rd cs.toList fd.offset ft with
        | some v => .pure v
        | none => .bad
      | none => .bad
    | none => .bad
  | _, _ => .bad

def clFieldAddr (L : Lay) (T : Nat) (x : Value) (f : Nat) : Cl :=
  match x, L T with
  | .pointer (some ⟨b, o, none⟩), some t => match fieldOf t f with
    | some fd => match L fd.type with
      | some ft => bif Nat.beq ft.size 0 then .bad else .pure (.pointer (some ⟨b, o + fd.offset, none⟩))
      | none => .bad
    | none => .bad
  | _, _ => .bad

def lenAll : List (Nat × Value) → Bool
  | [] => true
  | _ :: l => lenAll l

/-- the parts of a struct or an array, each at its place; none: they do not fit -/
def bldS (L : Lay) (fs : Array Field) (cs : List Value) : List (Nat × Value) → Option (List Value)
  | [] => some cs
  | (i, v) :: rest => match fs[i]? with
    | some fd => match L fd.type with
      | some ft => bif Nat.beq v.cells.size ft.size && Nat.ble (fd.offset + ft.size) cs.length then bldS L fs (wrAt cs fd.offset v.cells.toList) rest else none
      | none => none
    | none => none

def bldA (size : Nat) (cs : List Value) : List (Nat × Value) → Option (List Value)
  | [] => some cs
  | (i, v) :: rest => bif Nat.beq v.cells.size size && Nat.ble (i * size + size) cs.length then bldA size (wrAt cs (i * size) v.cells.toList) rest else none

def clBuild (L : Lay) (T : Nat) (ps : List (Nat × Value)) : Cl :=
  match L T with
  | some t => match t.desc with
    | .struct fs => match bldS L fs t.zero.cells.toList ps with
      | some cs => .pure (.agg cs.toArray)
      | none => .bad
    | .array _ e => match L e with
      | some et => match bldA et.size t.zero.cells.toList ps with
        | some cs => .pure (.agg cs.toArray)
        | none => .bad
      | none => .bad
    | _ => .bad
  | none => .bad

def repl : Nat → List Value → List Value
  | 0, _ => []
  | n + 1, l => l ++ repl n l

def clBuildSlice (L : Lay) (T n : Nat) (ps : List (Nat × Value)) : Cl :=
  match L T with
  | some ⟨.slice e, _, _, _⟩ => match L e with
    | some et => bif Nat.ble (n * et.size) 16777216 then (match bldA et.size (repl n et.zero.cells.toList) ps with
      | some cs => .new e cs.toArray fun b => .slice (some ⟨b, 0, none⟩) n n
      | none => .bad) else .bad
    | none => .bad
  | _ => .bad

def clSlice (L : Lay) (T : Nat) (x : Value) (lo hi mx : Option Value) : Cl :=
  match L T, x, mx with
  | some ⟨.slice e, _, _, _⟩, .slice a len cap, none => match L e with
    | some t => match lo, hi with
      | none, some (.int _ j) => .chk (0 ≤ j ∧ j ≤ cap) (.slice a j.toNat cap)
      | some (.int _ i), none => .chk (0 ≤ i ∧ i ≤ len) (.slice (if cap = i.toNat then a else a.map (·.add (i.toNat * t.size))) (len - i.toNat) (cap - i.toNat))
      | some (.int _ i), some (.int _ j) => .chk ((0 ≤ j ∧ j ≤ cap) ∧ 0 ≤ i ∧ i ≤ j) (.slice (if cap = i.toNat then a else a.map (·.add (i.toNat * t.size))) (j.toNat - i.toNat) (cap - i.toNat))
      | none, none => .pure (.slice a len cap)
      | _, _ => .bad
    | none => .bad
  | some ⟨.string, _, _, _⟩, .string s, none => match lo, hi with
      | none, some (.int _ j) => .chk (0 ≤ j ∧ j ≤ s.size) (.string (s.extract 0 j.toNat))
      | some (.int _ i), none => .chk (0 ≤ i ∧ i ≤ s.size) (.string (s.extract i.toNat s.size))
      | some (.int _ i), some (.int _ j) => .chk ((0 ≤ j ∧ j ≤ s.size) ∧ 0 ≤ i ∧ i ≤ j) (.string (s.extract i.toNat j.toNat))
      | _, _ => .bad
  | _, _, _ => .bad

def clMake (T : Nat) (l cap : Value) : Cl :=
  .sem (Instr.makeSlice T l cap)

def clUn (op : UnOp) (x : Value) : Cl :=
  match op, x with
  | .not, .bool b => .pure (.bool (!b))
  | .neg, .int k n => .pure (.int k (k.wrap (0 - n)))
  | _, _ => .bad

def clConv (L : Lay) (dst : Nat) (src : Nat) (x : Value) : Cl :=
  match L src, L dst, x with
  | some _, some ⟨.int k, _, _, _⟩, .int _ n => .pure (.int k (k.wrap n))
  | some _, some ⟨.string, _, _, _⟩, .string s => .pure (.string s)
  | _, _, _ => .bad

def clCall (L : Lay) (ρ : Operand → Value) (T : Nat) (cl : Go.Call) : Cl :=
  match cl.callee with
  | .value f => match ρ f with
    | .func (.func g) first cap => .call g (first.toList ++ cl.args.toList.map ρ ++ cap.toList).toArray
    | .func (.yield l) first _ => .round l (first.toList ++ cl.args.toList.map ρ).toArray
    | _ => .bad
  | .builtin .len => match cl.args.toList with
    | [x] => clLen L cl.argTypes.toList (ρ x)
    | _ => .bad
  | .builtin .append => .sem (Builtin.append_ cl.argTypes T (cl.args.map ρ))
  | .builtin .copy => .sem (Builtin.copy_ cl.argTypes T (cl.args.map ρ))
  | .builtin .clear => .sem (Builtin.clear_ cl.argTypes T (cl.args.map ρ))
  | .builtin .min => .sem (Builtin.min_ cl.argTypes T (cl.args.map ρ))
  | .builtin .max => .sem (Builtin.max_ cl.argTypes T (cl.args.map ρ))
  | .builtin .delete => .sem (Builtin.delete_ cl.argTypes T (cl.args.map ρ))
  | _ => .bad

def nthV : List Value → Nat → Option Value
  | [], _ => none
  | v :: _, 0 => some v
  | _ :: l, i + 1 => nthV l i

def cl (L : Lay) (ρ : Operand → Value) (o : Oper) : Cl :=
  match o.op with
  | .move x | .assign x => .pure (ρ x)
  | .pick c a b => match ρ c with
    | .bool t => .br t (ρ a) (ρ b)
    | _ => .bad
  | .nilCheck x => match ρ x with
    | .pointer (some a) => .pure (.pointer (some a))
    | .func (.func g) fi ca => .pure (.func (.func g) fi ca)
    | .func (.yield g) fi ca => .pure (.func (.yield g) fi ca)
    | _ => .bad
  | .alloc T => match L T with
    | some t => .new T t.zero.cells fun b => .pointer (some ⟨b, 0, none⟩)
    | none => .bad
  | .box T x => .new T (ρ x).cells fun b => .pointer (some ⟨b, 0, none⟩)
  | .build T ps => clBuild L T (ps.toList.map fun p => (p.1, ρ p.2))
  | .buildSlice T n ps => clBuildSlice L T n (ps.toList.map fun p => (p.1, ρ p.2))
  | .load T a => match ρ a, L T with
    | .pointer (some ⟨b, o, none⟩), some t => .load b o t
    | _, _ => .bad
  | .store T a x => match ρ a, L T with
    | .pointer (some ⟨b, o, none⟩), some t => .store b o t (ρ x)
    | _, _ => .bad
  | .binOp op T x y _ => clBin L op T x y (ρ x) (ρ y)
  | .unOp op _ x => clUn op (ρ x)
  | .convert s d x => clConv L d s (ρ x)
  | .makeFunc fn first cap => .pure (.func fn (first.toList.map ρ).toArray (cap.toList.map ρ).toArray)
  | .makeMap T r => .sem (Instr.makeMap T (r.map ρ))
  | .makeSlice T l k => .sem (Instr.makeSlice T (ρ l) (ρ k))
  | .slice T x lo hi mx => clSlice L T (ρ x) (lo.map ρ) (hi.map ρ) (mx.map ρ)
  | .fieldAddr T x f => clFieldAddr L T (ρ x) f
  | .field T x f => clField L T (ρ x) f
  | .indexAddr T x i => clIndexAddr L T (ρ x) (ρ i)
  | .index T x i => clIndex L T (ρ x) (ρ i)
  | .lookup T x i ok => .sem (Instr.lookup T (ρ x) (ρ i) ok)
  | .mapUpdate T m k x | .insert T m k x => .semU (Instr.mapUpdate T (ρ m) (ρ k) (ρ x))
  | .range T x => .sem (Instr.range T (ρ x))
  | .next it s => .sem (Instr.next (ρ it) s o.type)
  | .entry it => .sem (Instr.entry (ρ it))
  | .extract x i => match ρ x with
    | .tuple vs => match nthV vs.toList i with
      | some v => .pure v
      | none => .bad
    | _ => .bad
  | .call k => clCall L ρ o.type k
  | _ => .bad

/-! ### the tree of a body -/
section pe
variable (L : Lay) (n : Nat)

def okDst (n : Nat) : Option Nat → Bool
  | none => true
  | some d => Nat.blt d n

/-- one operation; e: must what was there stay as it was? -/
def opX (e : Option (List Nat)) (o : Oper) (s : St) (k : St → X) : X :=
  bif okDst n o.dst then
    match cl L (ev s.ρ) o with
    | .bad => .fail
    | .pure v => k (s.put o.dst v)
    | .chk p v => .chk p (k (s.put o.dst v))
    | .br t x y => .br t (k (s.put o.dst x)) (k (s.put o.dst y))
    | .load b a i => .load b a i fun v => k (s.put o.dst v)
    | .store b a i v => match e with
      | none => .store b a i v (k (s.put o.dst undef))
      | some D => .chk (b ∈ D) (.store b a i v (k (s.put o.dst undef)))
    | .new T cs out => .new T cs fun b => k (s.put o.dst (out b))
    | .call f args => .call e f args fun v => k (s.put o.dst v)
    | .round l args => match e with
      | none => .round l args fun v => k (s.put o.dst v)
      | some _ => .fail
    | .sem x => .sem e x fun v => k (s.put o.dst v)
    | .semU x => .semU e x (k (s.put o.dst undef))
  else .fail

/-- one operation behind its guard -/
def gX (ops : Array Oper) (e : Option (List Nat)) (o : Oper) (s : St) (k : St → X) : X :=
  match o.guard with
  | none => opX L n e o s k
  | some (j, b) => match (ops[j]?).bind (·.dst) with
    | some d => bif Nat.blt d n then (match s.ρ d with
      | .bool t => .br t (bif b then opX L n e o ⟨upd s.ρ d (.bool true), s.ds⟩ k else bif okDst n o.dst then k (St.put ⟨upd s.ρ d (.bool true), s.ds⟩ o.dst undef) else .fail)
          (bif b then (bif okDst n o.dst then k (St.put ⟨upd s.ρ d (.bool false), s.ds⟩ o.dst undef) else .fail) else opX L n e o ⟨upd s.ρ d (.bool false), s.ds⟩ k)
      | .tuple _ => bif okDst n o.dst then k (s.put o.dst undef) else .fail
      | _ => .fail) else .fail
    | none => .fail

abbrev opsX (ops : Array Oper) : List Oper → St → (St → X) → X
  | [], s, k => k s
  | o :: rest, s, k => gX L n ops none o s fun s' => opsX ops rest s' k

def pe : Code → St → (Exit → St → X) → X
  | .skip, s, k => k .normal s
  | .ret, s, k => k .ret s
  | .exit id, s, k => k (.exit id) s
  | .region _ ops false, s, k => opsX L n ops ops.toList s (k .normal)
  | .region id ops true, s, k => .draw id ops s (k .normal)
  | .seq a b, s, k => pe a s fun e s' => match e with
    | .normal => pe b s' k
    | .ret => k .ret s'
    | .exit id => k (.exit id) s'
    | _ => .fail
  | .cond c x y, s, k => match ev s.ρ c with
    | .bool t => .br t (pe x s k) (pe y s k)
    | _ => .fail
  | .block id x, s, k => pe x s fun e s' => match e with
    | .normal => k .normal s'
    | .ret => k .ret s'
    | .exit j => bif Nat.beq j id then k .normal s' else k (.exit j) s'
    | _ => .fail
  | .loop x, s, k => .loop x s k
  | .rangeFunc g ps as bd, s, k => .rangeF g ps as bd s k
  | _, _, _ => .fail
end pe
end Go.Xe
namespace Go.Xe
open Go

theorem eval_eq {n : Nat} {a : Act} {s : St} (h : Rel n a s) : a.eval = ev s.ρ := by
  funext x
  cases x with
  | tmp t => exact h.2.2 t
  | _ => rfl

theorem Rel.put {n : Nat} {a : Act} {s : St} (h : Rel n a s) (d : Option Nat) (hd : okDst n d = true) (v : Value) : Rel n (a.put d v) (s.put d v) := by
  cases d with
  | none => exact h
  | some d =>
    obtain ⟨h1, h2, h3⟩ := h
    have hd' : d < n := by simpa [okDst, Nat.blt_eq] using hd
    refine ⟨by simp [Act.put, h1], h2, fun t => ?_⟩
    simp only [Act.put, St.put, upd]
    by_cases ht : t = d
    · subst ht; simp [h1, hd']
    · have : Nat.beq t d = false := by cases hx : Nat.beq t d with | false => rfl | true => exact absurd (Nat.eq_of_beq_eq_true hx) ht
      rw [this, cond_false, ← h3 t]
      simp [Array.getElem?_setIfInBounds_ne (Ne.symm ht)]

section
variable {L : Lay} {P : Program}

theorem run_und (hL : LayOk L P) {T : Nat} {i : TI} (h : L T = some i) (w : World) : (underlying T).run P w = .ok i.desc w := run_underlying (hL.und T i h) w
theorem run_size (hL : LayOk L P) {T : Nat} {i : TI} (h : L T = some i) (w : World) : (sizeOf T).run P w = .ok i.size w := by
  obtain ⟨x, h1, h2, h3, h4⟩ := hL.inf T i h
  simp [sizeOf, typeInfo, h1, h3]
theorem run_zero (hL : LayOk L P) {T : Nat} {i : TI} (h : L T = some i) (w : World) : (zeroValue T).run P w = .ok i.zero w := by
  obtain ⟨x, h1, h2, h3, h4⟩ := hL.inf T i h
  simp [zeroValue, typeInfo, h1, h2]
theorem run_info (hL : LayOk L P) {T : Nat} {i : TI} (h : L T = some i) (w : World) : ∃ x, (typeInfo T).run P w = .ok x w ∧ x.zero = some i.zero ∧ x.size = i.size ∧ x.bytes = i.bytes := by
  obtain ⟨x, h1, h2⟩ := hL.inf T i h
  exact ⟨x, by simp [typeInfo, h1], h2⟩

theorem add_at (b o n : Nat) : (⟨b, o, none⟩ : Addr).add n = ⟨b, o + n, none⟩ := by
  unfold Addr.add; split <;> simp_all

theorem rd_cells {cs : List Value} {o : Nat} {i : TI} {v : Value} (h : rd cs o i = some v) :
    ((match i.desc with | .struct _ | .array _ _ => true | _ => false) = true ∧ o + i.size ≤ cs.length ∧ v = .agg ((cs.drop o).take i.size).toArray) ∨
    ((match i.desc with | .struct _ | .array _ _ => true | _ => false) = false ∧ cs[o]? = some v) := by
  unfold rd at h
  split at h <;> rename_i hd <;> first
    | (cases hb : Nat.ble (o + i.size) cs.length with
       | true => exact .inl ⟨by rw [hd], by simpa using hb, by simpa [hb] using h.symm⟩
       | false => simp [hb] at h)
    | (refine .inr ⟨?_, h⟩
       split
       · rename_i hx; simp_all
       · rename_i hx; simp_all
       · rfl)

theorem run_loadVar (hL : LayOk L P) {T : Nat} {i : TI} (h : L T = some i) {w : World} {b o : Nat} {v : Value} (hv : Ld w.heap b o i v) :
    (loadVar T ⟨b, o, none⟩).run P w = .ok v w := by
  obtain ⟨cs, E, fz, hb, hr⟩ := hv
  rcases rd_cells hr with ⟨hd, hs, rfl⟩ | ⟨hd, hc⟩
  · have hag : (isAgg T).run P w = .ok true w := by
      simp only [isAgg, Sem.run_bind, run_und hL h, Result.andThen_ok]
      split at hd <;> rename_i hx <;> first | (simp [hx]; done) | cases hd
    simp only [loadVar, Sem.run_bind, hag, Result.andThen_ok, if_true, run_size hL h]
    have hl : ((cs.toList.drop o).take i.size).length = i.size := by simp at hs ⊢; omega
    have := run_loadCells_list (P := P) w ⟨b, o, none⟩ ((cs.toList.drop o).take i.size) (fun j v hj => by
      rw [add_at]
      have hj' : j < i.size := by have := (List.getElem?_eq_some_iff.1 hj).1; omega
      simp only [World.cell?, hb]
      rw [List.getElem?_take, if_pos hj', List.getElem?_drop] at hj
      simpa using hj)
    rw [hl] at this
    rw [this]
    simp
  · have hag : (isAgg T).run P w = .ok false w := by
      simp only [isAgg, Sem.run_bind, run_und hL h, Result.andThen_ok]
      split at hd <;> rename_i hx <;> first | cases hd | skip
      split <;> simp_all
    simp only [loadVar, Sem.run_bind, hag, Result.andThen_ok]
    simp at hc
    simp [World.cell?, hb, hc]

theorem wrAt_eq : ∀ (cs : List Value) (o : Nat) (vs : List Value), o + vs.length ≤ cs.length → wrAt cs o vs = cs.take o ++ vs ++ cs.drop (o + vs.length)
  | cs, o, [], _ => by cases cs <;> simp [wrAt]
  | [], o, v :: vs, h => by simp at h
  | c :: cs, 0, v :: vs, h => by
    have := wrAt_eq cs 0 vs (by simp at h ⊢; omega)
    simp [wrAt, this]
  | c :: cs, o + 1, v :: vs, h => by
    have := wrAt_eq cs o (v :: vs) (by simp at h ⊢; omega)
    rw [show o + 1 + (v :: vs).length = (o + (v :: vs).length) + 1 from by omega]
    simp [wrAt, this]

theorem wrAt_length : ∀ (cs : List Value) (o : Nat) (vs : List Value), (wrAt cs o vs).length = cs.length
  | cs, o, [] => by cases cs <;> simp [wrAt]
  | [], o, v :: vs => by simp [wrAt]
  | c :: cs, 0, v :: vs => by simp [wrAt, wrAt_length cs 0 vs]
  | c :: cs, o + 1, v :: vs => by simp [wrAt, wrAt_length cs o (v :: vs)]

theorem run_storeVar (hL : LayOk L P) {T : Nat} {i : TI} (h : L T = some i) {w : World} {b o : Nat} {v : Value} {cs : Array Value} {E : Nat} (hb : w.heap[b]? = some (.cells cs E (0, 0)))
    (hs : v.cells.size = i.size) (ho : o + i.size ≤ cs.size) (h1 : ∀ u ∈ v.cells.toList, u.oneCell' = true) :
    (storeVar T ⟨b, o, none⟩ v).run P w = .ok () (w.setRow b (wrAt cs.toList o v.cells.toList).toArray) := by
  have := run_storeCells_at P b o E v.cells.toList 0 cs w hb (by simpa [hs] using ho) h1
  simp only [storeVar, Sem.run_bind, run_size hL h, Result.andThen_ok, hs]
  simp only [ne_eq, not_true_eq_false, if_false]
  rw [wrAt_eq _ _ _ (by simpa [hs] using ho)]
  simpa using this

theorem wrAt_nil (cs : List Value) (o : Nat) : wrAt cs o [] = cs := by cases cs <;> rfl

theorem wrAt_cons : ∀ (cs : List Value) (o : Nat) (v : Value) (vs : List Value), o < cs.length → wrAt cs o (v :: vs) = wrAt (cs.set o v) (o + 1) vs
  | [], o, v, vs, h => by simp at h
  | c :: cs, 0, v, vs, h => by cases vs <;> simp [wrAt]
  | c :: cs, o + 1, v, vs, h => by
    have := wrAt_cons cs o v vs (by simpa using h)
    cases vs <;> simp [wrAt, this]

theorem foldl_wr (off : Nat) : ∀ (l : List Value) (k : Nat) (A : Array Value), off + k + l.length ≤ A.size →
    (l.zipIdx k).foldl (fun (cs : Array Value) (x : Value × Nat) => cs.setIfInBounds (off + x.2) x.1) A = (wrAt A.toList (off + k) l).toArray
  | [], k, A, _ => by simp [wrAt_nil]
  | v :: l, k, A, h => by
    have ih := foldl_wr off l (k + 1) (A.setIfInBounds (off + k) v) (by simp at h ⊢; omega)
    simp only [List.zipIdx_cons, List.foldl_cons, ih]
    rw [wrAt_cons _ _ _ _ (by simp at h ⊢; omega)]
    simp [Nat.add_assoc]

theorem fill_step (place : Nat → Option (Nat × Nat)) (cs : List Value) (i off size : Nat) (v : Value) (rest : List (Nat × Value)) (hp : place i = some (off, size)) (hs : v.cells.size = size)
    (hl : off + size ≤ cs.length) : Instr.fill place cs.toArray ((i, v) :: rest) = Instr.fill place (wrAt cs off v.cells.toList).toArray rest := by
  have h1 : ¬ (v.cells.size ≠ size ∨ off + v.cells.size > cs.toArray.size) := by simp [hs]; omega
  have hb : (decide (v.cells.size ≠ size) || decide (off + v.cells.size > cs.toArray.size)) = false := by simpa using h1
  have := foldl_wr off v.cells.toList 0 cs.toArray (by simp [hs]; omega)
  simp only [Instr.fill, hp]
  rw [if_neg (by simpa using h1)]
  congr 1
  rw [← Array.foldl_toList, Array.toList_zipIdx]
  simpa using this

theorem fill_S (hL : LayOk L P) (fs : Array Field) (pl : Array (Nat × Nat)) (hpl : pl = fs.map fun f : Field => (f.offset, ((L f.type).map (·.size)).getD 0)) :
    ∀ (ps : List (Nat × Value)) (cs out : List Value), bldS L fs cs ps = some out → Instr.fill (pl[·]?) cs.toArray ps = some out.toArray
  | [], cs, out, h => by simp [bldS] at h; simp [Instr.fill, h]
  | (i, v) :: rest, cs, out, h => by
    simp only [bldS] at h
    cases hf : fs[i]? with
    | none => simp [hf] at h
    | some fd =>
      simp only [hf] at h
      cases ht : L fd.type with
      | none => simp [ht] at h
      | some ft =>
        simp only [ht] at h
        cases hc : (Nat.beq v.cells.size ft.size && Nat.ble (fd.offset + ft.size) cs.length) with
        | false => simp [hc] at h
        | true =>
          simp only [hc, cond_true] at h
          simp only [Bool.and_eq_true] at hc
          rw [fill_step (fun i => pl[i]?) cs i fd.offset ft.size v rest (by subst hpl; simp [hf, ht]) (Nat.eq_of_beq_eq_true hc.1) (Nat.le_of_ble_eq_true hc.2)]
          exact fill_S hL fs pl hpl rest _ out h

theorem fill_A (size : Nat) : ∀ (ps : List (Nat × Value)) (cs out : List Value), bldA size cs ps = some out → Instr.fill (fun i => some (i * size, size)) cs.toArray ps = some out.toArray
  | [], cs, out, h => by simp [bldA] at h; simp [Instr.fill, h]
  | (i, v) :: rest, cs, out, h => by
    simp only [bldA] at h
    cases hc : (Nat.beq v.cells.size size && Nat.ble (i * size + size) cs.length) with
    | false => simp [hc] at h
    | true =>
      simp only [hc, cond_true] at h
      simp only [Bool.and_eq_true] at hc
      rw [fill_step (fun i => some (i * size, size)) cs i (i * size) size v rest rfl (Nat.eq_of_beq_eq_true hc.1) (Nat.le_of_ble_eq_true hc.2)]
      exact fill_A size rest _ out h

theorem run_mapM (P : Program) {α β : Type} (f : α → Sem β) (g : α → β) (w : World) : ∀ l : List α, (∀ x, x ∈ l → (f x).run P w = .ok (g x) w) → (l.mapM f).run P w = .ok (l.map g) w
  | [], _ => by simp
  | x :: l, h => by
    have ih := run_mapM P f g w l (fun y hy => h y (List.mem_cons_of_mem _ hy))
    simp [List.mapM_cons, h x (List.mem_cons_self ..), ih]

theorem run_places (hL : LayOk L P) {T : Nat} {i : TI} {fs : Array Field} (h : L T = some i) (hd : i.desc = .struct fs) (w : World) :
    (fs.mapM fun f => do pure (f.offset, ← sizeOf f.type) : Sem (Array (Nat × Nat))).run P w = .ok (fs.map fun f : Field => (f.offset, ((L f.type).map (·.size)).getD 0)) w := by
  rw [Array.mapM_eq_mapM_toList]
  have := run_mapM P (fun f : Field => (do pure (f.offset, ← sizeOf f.type) : Sem (Nat × Nat))) (fun f : Field => (f.offset, ((L f.type).map (·.size)).getD 0)) w fs.toList (fun f hf => by
    obtain ⟨j, hj⟩ := hL.fld T i fs h hd f hf
    simp [run_size hL hj, hj])
  simp only [Sem.run_map, this, Result.andThen_ok, ← Array.toList_map, Array.toArray_toList]


/-- what is said of an operation, by its kind -/
def Cl.Says (P : Program) (s : Sem Next) : Cl → Prop
  | .bad => True
  | .pure v => ∀ w, s.run P w = .ok (.value v) w
  | .chk p v => p → ∀ w, s.run P w = .ok (.value v) w
  | .br t x y => ∀ w, s.run P w = .ok (.value (if t then x else y)) w
  | .load b o i => ∀ w v, Ld w.heap b o i v → s.run P w = .ok (.value v) w
  | .store b o i v => ∀ w cs E, w.heap[b]? = some (.cells cs E (0, 0)) → v.cells.size = i.size → o + i.size ≤ cs.size → (∀ u ∈ v.cells.toList, u.oneCell' = true) →
      s.run P w = .ok .skip (w.setRow b (wrAt cs.toList o v.cells.toList).toArray)
  | .new T cs out => ∀ w, s.run P w = .ok (.value (out w.heap.size)) (w.alloc (.cells cs T))
  | .call f args => ∀ w, s.run P w = (callFunc f args).run P w
  | .round l args => ∀ w, s.run P w = (Instr.yield l args).run P w
  | .sem x => ∀ w, s.run P w = (x.run P w).andThen fun v w' => .ok (.value v) w'
  | .semU x => ∀ w, s.run P w = (x.run P w).andThen fun _ w' => .ok .skip w'

theorem says_ite {s : Sem Next} {b : Bool} {x y : Cl} (hx : b = true → x.Says P s) (hy : b = false → y.Says P s) : (bif b then x else y).Says P s := by
  cases b
  · exact hy rfl
  · exact hx rfl

theorem sameK_eq {k k' : IntKind} (h : sameK k k' = true) : k = k' := by cases k <;> cases k' <;> first | rfl | cases h

section bin
variable (xo yo : Operand) (T : Nat)

/-- the semantics of a binary operation as execOp lays it -/
abbrev semBin (op : BinOp) (x y : Value) : Sem Next := do pure (.value (← (do eqGuard op T xo yo x y; binOp op T x y : Sem Value)))

theorem guard_int (op : BinOp) (k k' : IntKind) (a b : Int) (w : World) : (eqGuard op T xo yo (.int k a) (.int k' b)).run P w = .ok () w := by
  cases op <;> simp [eqGuard]
theorem guard_str (op : BinOp) (a b : ByteArray) (w : World) : (eqGuard op T xo yo (.string a) (.string b)).run P w = .ok () w := by
  cases op <;> simp [eqGuard]
theorem guard_bool (op : BinOp) (a b : Bool) (w : World) : (eqGuard op T xo yo (.bool a) (.bool b)).run P w = .ok () w := by
  cases op <;> simp [eqGuard]
theorem guard_ptr (op : BinOp) (a b : Option Addr) (w : World) : (eqGuard op T xo yo (.pointer a) (.pointer b)).run P w = .ok () w := by
  cases op <;> simp [eqGuard]
theorem guard_sl (op : BinOp) (a b : Option Addr) (n m n' m' : Nat) (w : World) : (eqGuard op T xo yo (.slice a n m) (.slice b n' m')).run P w = .ok () w := by
  cases op <;> simp [eqGuard]

theorem says_int (op : BinOp) (k k' : IntKind) (a b : Int) (hk : isShift op = true ∨ k = k') : (clInt op k a b).Says P (semBin xo yo T op (.int k a) (.int k' b)) := by
  cases op <;> simp only [isShift, Bool.false_eq_true, false_or, true_or] at hk <;> (try subst hk) <;> simp only [clInt, bitsI, Cl.Says] <;>
    first
    | trivial
    | (intro w; simp [semBin, guard_int, binOp, Op.intArith, Op.intDiv, Op.intBits, Op.intCmp, Op.shift]; done)
    | (intro hp w; simp [semBin, guard_int, binOp, Op.intDiv, Op.shift, hp]; done)
    | (intro hp w; have hp' : ¬ b < 0 := by omega
       simp [semBin, guard_int, binOp, Op.shift, hp']; done)

theorem says_str (op : BinOp) (a b : ByteArray) : (clStr op a b).Says P (semBin xo yo T op (.string a) (.string b)) := by
  cases op <;> simp only [clStr, Cl.Says] <;>
    first
    | trivial
    | (intro w; simp [semBin, guard_str, binOp, Op.stringOp]; done)
    | (intro hp w
       have hp' : ¬ ((a.size + b.size : Nat) : Int) > IntKind.i64.max := by omega
       simp only [semBin, Sem.run_bind, guard_str, binOp, Op.stringOp, Result.andThen_ok, if_neg hp', Sem.run_pure]; done)


theorem eqIn_ptr {t : TI} {e : Nat} (hL : LayOk L P) (hT : L T = some t) (ht : t.desc = .pointer e) (a b : Option Addr) (c : Bool) (hab : (a = none ∧ c = b.isNone) ∨ (b = none ∧ c = a.isNone)) (d : Nat) (w : World) :
    (Op.equalIn (d + 1) T (.pointer a) (.pointer b)).run P w = .ok c w := by
  have hu := run_und (P := P) hL hT w
  rw [ht] at hu
  rcases hab with ⟨rfl, rfl⟩ | ⟨rfl, rfl⟩
  · simp [Op.equalIn, hu]
  · cases a <;> simp [Op.equalIn, hu]

theorem eqIn_sl {t : TI} {e : Nat} (hL : LayOk L P) (hT : L T = some t) (ht : t.desc = .slice e) (a b : Option Addr) (n m n' m' : Nat) (c : Bool) (hab : (a = none ∧ c = b.isNone) ∨ (b = none ∧ c = a.isNone)) (d : Nat) (w : World) :
    (Op.equalIn (d + 1) T (.slice a n m) (.slice b n' m')).run P w = .ok c w := by
  have hu := run_und (P := P) hL hT w
  rw [ht] at hu
  rcases hab with ⟨rfl, rfl⟩ | ⟨rfl, rfl⟩
  · simp [Op.equalIn, hu]
  · cases a <;> simp [Op.equalIn, hu]

theorem eqIn_bool {t : TI} (hL : LayOk L P) (hT : L T = some t) (ht : t.desc = .bool) (a b : Bool) (d : Nat) (w : World) :
    (Op.equalIn (d + 1) T (.bool a) (.bool b)).run P w = .ok (a == b) w := by
  have hu := run_und (P := P) hL hT w
  rw [ht] at hu
  simp [Op.equalIn, hu]

theorem says_nil (hL : LayOk L P) (op : BinOp) (a b : Option Addr) (c : Bool) {t : TI} {e : Nat} (hT : L T = some t) (ht : t.desc = .pointer e) (hab : (a = none ∧ c = b.isNone) ∨ (b = none ∧ c = a.isNone)) :
    (clNil op c).Says P (semBin xo yo T op (.pointer a) (.pointer b)) := by
  have he := fun w => eqIn_ptr T hL hT ht a b c hab 9999 w
  cases op <;> simp only [clNil, Cl.Says] <;> intro w <;>
    simp only [semBin, Sem.run_bind, guard_ptr, Result.andThen_ok, binOp, Op.equal, Op.maxDepth]
  · rw [he w]; rfl
  · rw [he w]; rfl

theorem says_nilS (hL : LayOk L P) (op : BinOp) (a b : Option Addr) (n m n' m' : Nat) (c : Bool) {t : TI} {e : Nat} (hT : L T = some t) (ht : t.desc = .slice e) (hab : (a = none ∧ c = b.isNone) ∨ (b = none ∧ c = a.isNone)) :
    (clNil op c).Says P (semBin xo yo T op (.slice a n m) (.slice b n' m')) := by
  have he := fun w => eqIn_sl T hL hT ht a b n m n' m' c hab 9999 w
  cases op <;> simp only [clNil, Cl.Says] <;> intro w <;>
    simp only [semBin, Sem.run_bind, guard_sl, Result.andThen_ok, binOp, Op.equal, Op.maxDepth]
  · rw [he w]; rfl
  · rw [he w]; rfl

theorem says_bool (hL : LayOk L P) (op : BinOp) (a b : Bool) {t : TI} (hT : L T = some t) (ht : t.desc = .bool) :
    (match op with | .eql => Cl.pure (.bool (a == b)) | .neq => .pure (.bool (!(a == b))) | _ => .bad).Says P (semBin xo yo T op (.bool a) (.bool b)) := by
  have he := fun w => eqIn_bool T hL hT ht a b 9999 w
  cases op <;> simp only [Cl.Says] <;> intro w <;>
    simp only [semBin, Sem.run_bind, guard_bool, Result.andThen_ok, binOp, Op.equal, Op.maxDepth]
  · rw [he w]; rfl
  · rw [he w]; rfl

theorem says_bin (hL : LayOk L P) (op : BinOp) (x y : Value) : (clBin L op T xo yo x y).Says P (semBin xo yo T op x y) := by
  unfold clBin
  split
  · rename_i k a k' b
    refine says_ite (fun h => says_int xo yo T op k k' a b (.inl h)) fun _ => says_ite (fun h => says_int xo yo T op k k' a b (.inr (sameK_eq h))) fun _ => trivial
  · exact says_str xo yo T op _ _
  · rename_i a b
    cases hT : L T with
    | none => simp [Cl.Says]
    | some t =>
      obtain ⟨d, z, s, by'⟩ := t
      have := says_bool xo yo T hL op a b (t := ⟨d, z, s, by'⟩) hT
      cases d <;> simp only at this ⊢ <;> first | exact trivial | skip
      have := this trivial
      cases op <;> exact this
  · rename_i p
    cases hT : L T with
    | none => simp [Cl.Says]
    | some t =>
      obtain ⟨d, z, s, by'⟩ := t
      cases d <;> simp only <;> first | exact trivial | exact says_nil xo yo T hL op none p _ hT rfl (.inl ⟨rfl, rfl⟩)
  · rename_i a
    cases hT : L T with
    | none => simp [Cl.Says]
    | some t =>
      obtain ⟨d, z, s, by'⟩ := t
      cases d <;> simp only <;> first | exact trivial | exact says_nil xo yo T hL op (some a) none _ hT rfl (.inr ⟨rfl, rfl⟩)
  · rename_i n m p n' m'
    cases hT : L T with
    | none => simp [Cl.Says]
    | some t =>
      obtain ⟨d, z, s, by'⟩ := t
      cases d <;> simp only <;> first | exact trivial | exact says_nilS xo yo T hL op none p _ _ _ _ _ hT rfl (.inl ⟨rfl, rfl⟩)
  · rename_i a n m n' m'
    cases hT : L T with
    | none => simp [Cl.Says]
    | some t =>
      obtain ⟨d, z, s, by'⟩ := t
      cases d <;> simp only <;> first | exact trivial | exact says_nilS xo yo T hL op (some a) none _ _ _ _ _ hT rfl (.inr ⟨rfl, rfl⟩)
  · intro w
    simp only [semBin, Sem.run_bind, Sem.run_pure]
end bin

/-! the other operations -/
abbrev vS (s : Sem Value) : Sem Next := do pure (.value (← s))

theorem says_len (hL : LayOk L P) (ts : List Nat) (ty : Nat) (x : Value) : (clLen L ts x).Says P (vS (Builtin.len_ ts.toArray ty #[x])) := by
  unfold clLen
  split
  · rename_i T
    cases hT : L T with
    | none => simp [Cl.Says]
    | some t =>
      have hu := fun w => run_und (P := P) hL hT w
      obtain ⟨d, z, s, by'⟩ := t
      cases d <;> (try exact trivial) <;> cases x <;> (try exact trivial) <;> (intro w; simp only at hu; simp [vS, Builtin.len_, hu, goInt])
  · trivial

theorem says_indexAddr (hL : LayOk L P) (T : Nat) (x ix : Value) : (clIndexAddr L T x ix).Says P (vS (Instr.indexAt T x ix)) := by
  unfold clIndexAddr
  split
  · rename_i k i
    split
    · rename_i hT
      have hu := fun w => run_und (P := P) hL hT w
      split
      · rename_i he
        intro hp w
        simp only at hu
        simp [vS, Instr.indexAt, asIntOf, hu, hp.1, hp.2, run_size hL he, add_at]
      · trivial
    · rename_i hT
      have hu := fun w => run_und (P := P) hL hT w
      split
      · rename_i he
        intro hp w
        simp only at hu
        simp [vS, Instr.indexAt, asIntOf, Instr.sureAddr, hu, hp.1, hp.2, run_size hL he, add_at]
      · trivial
    · trivial
  · trivial

theorem says_index (hL : LayOk L P) (T : Nat) (x ix : Value) : (clIndex L T x ix).Says P (vS (Instr.index T x ix)) := by
  unfold clIndex
  split
  · rename_i k i
    split
    · rename_i s hT
      have hu := fun w => run_und (P := P) hL hT w
      intro hp w
      simp only at hu
      have hlt : i.toNat < s.data.size := by have := hp.2; show i.toNat < s.size; omega
      have h1 : s[i.toNat]? = some s.data[i.toNat] := by
        rw [getElem?_pos s i.toNat (by exact hlt)]; rfl
      simp [vS, Instr.index, asIntOf, hu, hp.1, h1, byteAt, Array.getElem?_eq_getElem hlt]
    · trivial
  · trivial

theorem run_part (hL : LayOk L P) {T : Nat} {i : TI} (h : L T = some i) {cs : Array Value} {o : Nat} {v : Value} (hr : rd cs.toList o i = some v) (w : World) : (part T cs o).run P w = .ok v w := by
  rcases rd_cells hr with ⟨hd, hs, rfl⟩ | ⟨hd, hc⟩
  · have hag : (isAgg T).run P w = .ok true w := by
      simp only [isAgg, Sem.run_bind, run_und hL h, Result.andThen_ok]
      split at hd <;> rename_i hx <;> first | (simp [hx]; done) | cases hd
    simp only [part, Sem.run_bind, hag, Result.andThen_ok, if_true, run_size hL h, Sem.run_pure]
    congr 2
    apply Array.ext'
    simp [List.take_drop]
  · have hag : (isAgg T).run P w = .ok false w := by
      simp only [isAgg, Sem.run_bind, run_und hL h, Result.andThen_ok]
      split at hd <;> rename_i hx <;> first | cases hd | skip
      split <;> simp_all
    simp only [part, Sem.run_bind, hag, Result.andThen_ok]
    simp at hc
    simp [hc]

theorem fieldOf_spec {t : TI} {f : Nat} {fd : Field} (h : fieldOf t f = some fd) : ∃ fs, t.desc = .struct fs ∧ fs[f]? = some fd := by
  unfold fieldOf at h
  split at h
  · rename_i fs hd; exact ⟨fs, hd, h⟩
  · cases h

theorem says_field (hL : LayOk L P) (T : Nat) (x : Value) (f : Nat) : (clField L T x f).Says P (vS (Instr.field T x f)) := by
  unfold clField
  split
  · rename_i t cs hT
    split
    · rename_i fd hf
      obtain ⟨fs, hd, hfs⟩ := fieldOf_spec hf
      split
      · rename_i ft hft
        split
        · rename_i v hv
          intro w
          have hu := run_und (P := P) hL hT w
          rw [hd] at hu
          simp only [vS, Instr.field, Sem.run_bind, hu, Result.andThen_ok, hfs, asAgg, Sem.run_pure, run_part hL hft hv]
        · trivial
      · trivial
    · trivial
  · trivial

theorem says_fieldAddr (hL : LayOk L P) (T : Nat) (x : Value) (f : Nat) : (clFieldAddr L T x f).Says P (vS (Instr.fieldAt T x f)) := by
  unfold clFieldAddr
  split
  · rename_i b o t hT
    split
    · rename_i fd hf
      obtain ⟨fs, hd, hfs⟩ := fieldOf_spec hf
      split
      · rename_i ft hft
        refine says_ite (fun _ => trivial) fun hz => ?_
        intro w
        have hz' : ft.size ≠ 0 := fun h => by rw [h] at hz; cases hz
        have hu := run_und (P := P) hL hT w
        rw [hd] at hu
        simp only [vS, Instr.fieldAt, Sem.run_bind, hu, Result.andThen_ok, hfs, Instr.sureAddr, Sem.run_pure, fieldPlace, run_size hL hft, if_neg hz', add_at]
      · trivial
    · trivial
  · trivial

theorem says_build (hL : LayOk L P) (T : Nat) (ps : List (Nat × Value)) : (clBuild L T ps).Says P (vS (Instr.build T ps.toArray)) := by
  unfold clBuild
  split
  · rename_i t hT
    split
    · rename_i fs hd
      split
      · rename_i cs hcs
        intro w
        have hu := run_und (P := P) hL hT w
        rw [hd] at hu
        have hf := fill_S hL fs _ rfl ps t.zero.cells.toList cs hcs
        simp only [vS, Instr.build, Sem.run_bind, run_zero hL hT, hu, Result.andThen_ok, run_places hL hT hd]
        simp only [Array.toArray_toList] at hf
        simp only [hf, Sem.run_pure, Result.andThen_ok]
      · trivial
    · rename_i n e hd
      split
      · rename_i et het
        split
        · rename_i cs hcs
          intro w
          have hu := run_und (P := P) hL hT w
          rw [hd] at hu
          have hf := fill_A et.size ps t.zero.cells.toList cs hcs
          simp only [vS, Instr.build, Sem.run_bind, run_zero hL hT, hu, Result.andThen_ok, run_size hL het]
          simp only [Array.toArray_toList] at hf
          simp only [hf, Sem.run_pure, Result.andThen_ok]
        · trivial
      · trivial
    · trivial
  · trivial

theorem repl_length : ∀ (n : Nat) (l : List Value), (repl n l).length = n * l.length
  | 0, _ => by simp [repl]
  | n + 1, l => by simp [repl, repl_length n l, Nat.add_mul, Nat.add_comm]

theorem repl_get : ∀ (n : Nat) (l : List Value) (i : Nat), i < n * l.length → (repl n l)[i]? = l[i % l.length]?
  | 0, l, i, h => by simp at h
  | n + 1, l, i, h => by
    simp only [repl]
    by_cases hi : i < l.length
    · rw [List.getElem?_append_left hi, Nat.mod_eq_of_lt hi]
    · rw [List.getElem?_append_right (by omega), repl_get n l (i - l.length) (by rw [Nat.add_mul] at h; omega)]
      congr 1
      rw [Nat.mod_eq_sub_mod (a := i) (by omega)]

theorem range_repl (z : Array Value) (n s : Nat) (hs : z.size = s) : ((Array.range (n * s)).map (z[· % z.size]!)) = (repl n z.toList).toArray := by
  apply Array.ext'
  simp only [Array.toList_map, Array.toList_range]
  apply List.ext_getElem?
  intro i
  by_cases hi : i < n * s
  · have hz : 0 < z.size := by rcases Nat.eq_zero_or_pos z.size with h | h <;> first | exact h | (rw [← hs, h] at hi; simp at hi)
    rw [repl_get n z.toList i (by simpa [hs] using hi)]
    have hm : i % z.size < z.size := Nat.mod_lt _ hz
    simp [List.getElem?_range hi, hm]
  · rw [List.getElem?_eq_none (by simpa using hi), List.getElem?_eq_none (by rw [repl_length]; simpa [hs] using hi)]


theorem says_buildSlice (hL : LayOk L P) (T n : Nat) (ps : List (Nat × Value)) : (clBuildSlice L T n ps).Says P (vS (Instr.buildSlice T n ps.toArray)) := by
  unfold clBuildSlice
  split
  · rename_i e z s b hT
    have hu := fun w => run_und (P := P) hL hT w
    simp only at hu
    split
    · rename_i et het
      refine says_ite (fun hb => ?_) fun _ => trivial
      split
      · rename_i cs hcs
        intro w
        have hz := hL.zsz e et het
        have hle : ¬ n * et.size > 2 ^ 24 := by have := Nat.le_of_ble_eq_true hb; omega
        have hf := fill_A et.size ps _ cs hcs
        rw [← range_repl et.zero.cells n et.size hz] at hf
        by_cases h0 : n * et.size = 0
        · simp only [vS, Instr.buildSlice, Sem.run_bind, hu, Result.andThen_ok, run_size hL het, if_neg hle, if_pos h0, Sem.run_pure]
          have e0 : (Array.range (n * et.size)).map (fun x => (#[] : Array Value)[x % (#[] : Array Value).size]!) = (Array.range (n * et.size)).map (et.zero.cells[· % et.zero.cells.size]!) := by simp [h0]
          rw [e0]
          simp [hf, newRow]
        · simp only [vS, Instr.buildSlice, Sem.run_bind, hu, Result.andThen_ok, run_size hL het, if_neg hle, if_neg h0, Sem.run_pure, run_zero hL het]
          simp [hf, newRow]
      · trivial
    · trivial
  · trivial

theorem says_un (op : UnOp) (x : Value) : (clUn op x).Says P (vS (Op.unary op x)) := by
  unfold clUn
  split
  · intro w; simp [vS, Op.unary]
  · intro w; simp [vS, Op.unary, Op.intArith]
  · trivial

theorem says_conv (hL : LayOk L P) (s d : Nat) (x : Value) : (clConv L d s x).Says P (vS (convert s d x)) := by
  unfold clConv
  split
  · rename_i t k z sz by' k' n hs hd
    intro w
    have h1 := run_und (P := P) hL hs w
    have h2 := run_und (P := P) hL hd w
    simp only at h2
    simp [vS, convert, h1, h2, Conv.intToInt]
  · rename_i t z sz by' n hs hd
    intro w
    have h1 := run_und (P := P) hL hs w
    have h2 := run_und (P := P) hL hd w
    simp only at h2
    simp [vS, convert, h1, h2]
  · trivial

theorem run_bound (k : IntKind) (x : Int) (y : Nat) (c : BoundsCode) (h : 0 ≤ x ∧ x ≤ y) (w : World) : (Instr.sliceBound (.int k x) y c).run P w = .ok x.toNat w := by
  simp [Instr.sliceBound, asIntOf, h.1, h.2]

theorem says_slice (hL : LayOk L P) (T : Nat) (x : Value) (lo hi mx : Option Value) : (clSlice L T x lo hi mx).Says P (vS (Instr.sliceAt T x lo hi mx)) := by
  unfold clSlice
  split
  · rename_i e z s b a len cap hT
    have hu := fun w => run_und (P := P) hL hT w
    simp only at hu
    split
    · rename_i t ht
      have hsz := fun w => run_size (P := P) hL ht w
      split
      · rename_i k j
        intro hp w
        simp only [vS, Instr.sliceAt, Instr.slice, Instr.sliceBounds, Sem.run_bind, hu, hsz, Result.andThen_ok, Sem.run_pure, run_bound _ _ _ _ hp, Nat.zero_mul, Nat.sub_zero]
        congr 2
        split
        · rfl
        · cases a <;> simp [Addr.add]
      · rename_i k i
        intro hp w
        simp only [vS, Instr.sliceAt, Instr.slice, Instr.sliceBounds, Sem.run_bind, hu, hsz, Result.andThen_ok, Sem.run_pure, Option.isSome_none, Bool.false_eq_true, if_false, run_bound _ _ _ _ hp]
      · rename_i k i k' j
        intro hp w
        have hp2 : 0 ≤ i ∧ i ≤ (j.toNat : Nat) := by omega
        simp only [vS, Instr.sliceAt, Instr.slice, Instr.sliceBounds, Sem.run_bind, hu, hsz, Result.andThen_ok, Sem.run_pure, Option.isSome_none, Bool.false_eq_true, if_false, run_bound _ _ _ _ hp.1, run_bound _ _ _ _ hp2]
      · intro w
        simp only [vS, Instr.sliceAt, Instr.slice, Instr.sliceBounds, Sem.run_bind, hu, hsz, Result.andThen_ok, Sem.run_pure, Nat.zero_mul, Nat.sub_zero]
        congr 2
        split
        · rfl
        · cases a <;> simp [Addr.add]
      · trivial
    · trivial
  · rename_i z s b str hT
    have hu := fun w => run_und (P := P) hL hT w
    simp only at hu
    split
    · intro hp w
      simp only [vS, Instr.sliceAt, Instr.slice, Instr.sliceBounds, Sem.run_bind, hu, Result.andThen_ok, Sem.run_pure, Option.isSome_none, Bool.false_eq_true, if_false, run_bound _ _ _ _ hp]
    · intro hp w
      simp only [vS, Instr.sliceAt, Instr.slice, Instr.sliceBounds, Sem.run_bind, hu, Result.andThen_ok, Sem.run_pure, Option.isSome_none, Bool.false_eq_true, if_false, run_bound _ _ _ _ hp]
    · rename_i k i k' j
      intro hp w
      have hp2 : 0 ≤ i ∧ i ≤ (j.toNat : Nat) := by omega
      simp only [vS, Instr.sliceAt, Instr.slice, Instr.sliceBounds, Sem.run_bind, hu, Result.andThen_ok, Sem.run_pure, Option.isSome_none, Bool.false_eq_true, if_false, run_bound _ _ _ _ hp.1, run_bound _ _ _ _ hp2]
    · trivial
  · trivial

theorem says_call (hL : LayOk L P) (ρ : Operand → Value) (T : Nat) (k : Go.Call) : (clCall L ρ T k).Says P (do let d ← resolve ρ k T; invoke d.target d.args) := by
  unfold clCall
  split
  · rename_i f hc
    split
    · rename_i g first cap hf
      intro w
      have e : (first.toList ++ k.args.toList.map ρ ++ cap.toList).toArray = first ++ k.args.map ρ ++ cap := by apply Array.ext'; simp
      simp only [e]
      simp [resolve, hc, hf, Deferred.ofValue, invoke]
    · rename_i l first cap hf
      intro w
      have e : (first.toList ++ k.args.toList.map ρ).toArray = first ++ k.args.map ρ := by apply Array.ext'; simp
      simp only [e]
      simp [resolve, hc, hf, Deferred.ofValue, invoke]
    · trivial
  · rename_i hc
    split
    · rename_i x hx
      have hx' : k.args = #[x] := by rw [← Array.toArray_toList (xs := k.args), hx]
      have h1 := says_len hL k.argTypes.toList T (ρ x)
      have h2 : ∀ w, (do let d ← resolve ρ k T; invoke d.target d.args : Sem Next).run P w = (vS (Builtin.len_ k.argTypes.toList.toArray T #[ρ x])).run P w := by
        intro w; simp [resolve, hc, hx', invoke, builtin, vS]
      cases hcl : clLen L k.argTypes.toList (ρ x) <;> rw [hcl] at h1 <;> simp only [Cl.Says] at h1 ⊢ <;> first
        | trivial
        | (intro w; rw [h2 w]; exact h1 w)
        | (intro hp w; rw [h2 w]; exact h1 hp w)
        | (intro w v hv; rw [h2 w]; exact h1 w v hv)
        | (intro w cs E a b c d; rw [h2 w]; exact h1 w cs E a b c d)
    · trivial
  all_goals first
    | trivial
    | (rename_i hc; intro w; simp [resolve, hc, invoke, builtin]; done)

theorem says_load (hL : LayOk L P) (ρ : Operand → Value) (T : Nat) (a : Operand) : (match ρ a, L T with | .pointer (some ⟨b, o, none⟩), some t => Cl.load b o t | _, _ => .bad).Says P (vS (Instr.loadAt T (ρ a))) := by
  split
  · rename_i b o t ha hT
    intro w v hv
    simp only [vS, ha, Instr.loadAt, Instr.sureAddr, Sem.run_bind, Sem.run_pure, Result.andThen_ok, run_loadVar hL hT hv]
  · trivial

theorem says_store (hL : LayOk L P) (ρ : Operand → Value) (T : Nat) (a x : Operand) :
    (match ρ a, L T with | .pointer (some ⟨b, o, none⟩), some t => Cl.store b o t (ρ x) | _, _ => .bad).Says P (do Instr.storeAt T (ρ a) (ρ x); pure Next.skip) := by
  split
  · rename_i b o t ha hT
    intro w cs E hb hs ho h1
    simp only [ha, Instr.storeAt, Instr.sureAddr, Sem.run_bind, Sem.run_pure, Result.andThen_ok, run_storeVar hL hT hb hs ho h1]
  · trivial

theorem says_alloc (hL : LayOk L P) (T : Nat) : (match L T with | some t => Cl.new T t.zero.cells fun b => .pointer (some ⟨b, 0, none⟩) | none => .bad).Says P (vS (Instr.alloc T true (.tuple #[]))) := by
  split
  · rename_i t hT
    intro w
    simp [vS, Instr.alloc, run_zero hL hT, newVar, newRow]
  · trivial

theorem says_box (T : Nat) (v : Value) : (Cl.new T v.cells fun b => .pointer (some ⟨b, 0, none⟩)).Says P (vS (Instr.box T v)) := by
  intro w
  simp [vS, Instr.box, newVar, newRow]

theorem says_pick (c x y : Value) : (match c with | .bool t => Cl.br t x y | _ => .bad).Says P (do pure (.value (if ← asBool c then x else y))) := by
  split
  · intro w; simp [asBool]
  · trivial

theorem nthV_eq : ∀ (l : List Value) (i : Nat), nthV l i = l[i]?
  | [], _ => by simp [nthV]
  | _ :: _, 0 => by simp [nthV]
  | _ :: l, i + 1 => by simp [nthV, nthV_eq l i]
theorem says_extract (x : Value) (i : Nat) : (match x with | .tuple vs => (match nthV vs.toList i with | some v => Cl.pure v | none => .bad) | _ => .bad).Says P (vS (Instr.extract x i)) := by
  split
  · rename_i vs
    split
    · rename_i v hv
      rw [nthV_eq, Array.getElem?_toList] at hv
      intro w; simp [vS, Instr.extract, hv]
    · trivial
  · trivial

theorem cl_says (hL : LayOk L P) (ρ : Operand → Value) (o : Oper) : (cl L ρ o).Says P (execOp ρ o) := by
  unfold cl execOp
  split <;> rename_i hop <;> rw [hop] <;> simp only
  all_goals first
    | (intro w; rfl)
    | trivial
    | exact says_field hL _ _ _
    | exact says_fieldAddr hL _ _ _
    | exact says_indexAddr hL _ _ _
    | exact says_index hL _ _ _
    | exact says_slice hL _ _ _ _ _
    | exact says_un _ _
    | exact says_conv hL _ _ _
    | exact says_call hL _ _ _
    | exact says_bin _ _ _ hL _ _ _
    | exact says_load hL ρ _ _
    | exact says_store hL ρ _ _ _
    | exact says_alloc hL _
    | exact says_box _ _
    | exact says_pick _ _ _
    | exact says_extract _ _
    | (intro w
       have e : ∀ l : Array Operand, (l.toList.map ρ).toArray = l.map ρ := fun l => by apply Array.ext'; simp
       simp only [Instr.makeFunc, e]
       rfl)
    | (intro w; simp only [Sem.run_bind, Sem.run_pure]; done)
    | skip
  · rename_i T ps
    have := says_build hL T (ps.toList.map fun p => (p.1, ρ p.2))
    have e : (ps.toList.map fun p => (p.1, ρ p.2)).toArray = ps.map fun p => (p.1, ρ p.2) := by apply Array.ext'; simp
    rw [e] at this; exact this
  · rename_i T n ps
    have := says_buildSlice hL T n (ps.toList.map fun p => (p.1, ρ p.2))
    have e : (ps.toList.map fun p => (p.1, ρ p.2)).toArray = ps.map fun p => (p.1, ρ p.2) := by apply Array.ext'; simp
    rw [e] at this; exact this
  · rename_i x
    generalize ρ x = v
    cases v with
    | pointer p => cases p with
      | none => trivial
      | some a => intro w; rfl
    | func fn fi ca => cases fn with
      | func g => intro w; rfl
      | yield g => intro w; rfl
      | _ => trivial
    | _ => trivial
end

end Go.Xe
namespace Go.Xe
open Go

/-! ### from the tree to the code -/
section sound
variable {L : Lay} {P : Program} {c : World} {ro : Option Nat} {n : Nat}

theorem semAt_eq (o : Oper) (ρ : Operand → Value) (h : ∀ k, o.op ≠ .defer k) : Oper.semAt ro ρ o = execOp ρ o := by
  cases ro with
  | none => rfl
  | some l => exact Oper.semAt_some l ρ o h

theorem cl_defer (ρ : Operand → Value) (o : Oper) (h : cl L ρ o ≠ .bad) : ∀ k, o.op ≠ .defer k := by
  intro k hk
  exact h (by unfold cl; rw [hk])

theorem setRow_heap' (w : World) (b : Nat) (cs cs' : Array Value) (T : Nat) (fz : Nat × Nat) (hb : w.heap[b]? = some (.cells cs T fz)) :
    (w.setRow b cs').heap.size = w.heap.size ∧ (w.setRow b cs').heap[b]? = some (.cells cs' T fz) ∧ (∀ j, j ≠ b → (w.setRow b cs').heap[j]? = w.heap[j]?) := by
  refine ⟨by simp [World.setRow], setRow_heap w b cs cs' T fz hb, fun j hj => ?_⟩
  simp only [World.setRow, Array.getElem?_modify]
  rw [if_neg (fun h => hj h.symm)]

theorem Ctx.setRow {c w : World} (h : Ctx c w) (b : Nat) (cs : Array Value) : Ctx c (w.setRow b cs) := ⟨h.os, h.tape, h.output⟩
theorem Ctx.alloc {c w : World} (h : Ctx c w) (o : Obj) : Ctx c (w.alloc o) := ⟨h.os, h.tape, h.output⟩

/-- one operation -/
theorem op_sound (hL : LayOk L P) {e : Option (List Nat)} {o : Oper} {s : St} {k : St → X} {h : Hp} {Q : Exit → St → Hp → Prop} (hw : (opX L n e o s k).wp c P ro n h Q)
    {a : Act} {w : World} (ha : Rel n a s) (hh : w.heap = h) (hc : Ctx c w) (K : Act → World → Prop) (Q' : Exit → Act → World → Prop)
    (hK : ∀ a' w' s', Rel n a' s' → Ctx c w' → Kp e h w'.heap → (k s').wp c P ro n w'.heap Q → K a' w') : o.wpIn (Fe ro) 0 P a w K Q' := by
  refine ⟨fun _ _ => trivial, ?_⟩
  subst hh
  unfold opX at hw
  cases hd : okDst n o.dst with
  | false => rw [hd] at hw; exact hw.elim
  | true =>
    rw [hd, cond_true] at hw
    have hs := cl_says (P := P) hL (ev s.ρ) o
    have hput := fun v => ha.put o.dst hd v
    rw [← eval_eq ha] at hw hs
    cases hcl : cl L a.eval o with
    | bad => rw [hcl] at hw; exact hw.elim
    | pure v =>
      rw [hcl] at hw hs
      rw [semAt_eq o a.eval (cl_defer a.eval o (by rw [hcl]; simp)), hs w]
      exact hK _ _ _ (hput v) hc (Kp.refl _ _) hw
    | chk p v =>
      rw [hcl] at hw hs
      rw [semAt_eq o a.eval (cl_defer a.eval o (by rw [hcl]; simp)), hs hw.1 w]
      exact hK _ _ _ (hput v) hc (Kp.refl _ _) hw.2
    | br t x y =>
      rw [hcl] at hw hs
      rw [semAt_eq o a.eval (cl_defer a.eval o (by rw [hcl]; simp)), hs w]
      cases t with
      | true => exact hK _ _ _ (hput x) hc (Kp.refl _ _) (hw.1 rfl)
      | false => exact hK _ _ _ (hput y) hc (Kp.refl _ _) (hw.2 rfl)
    | load b oo i =>
      rw [hcl] at hw hs
      obtain ⟨v, hv, hw⟩ := hw
      rw [semAt_eq o a.eval (cl_defer a.eval o (by rw [hcl]; simp)), hs w v hv]
      exact hK _ _ _ (hput v) hc (Kp.refl _ _) hw
    | store b oo i v =>
      rw [hcl] at hw hs
      cases e with
      | none =>
        obtain ⟨cs, T, hb, h1, h2, h3, hw⟩ := hw
        rw [semAt_eq o a.eval (cl_defer a.eval o (by rw [hcl]; simp)), hs w cs T hb h1 h2 h3]
        obtain ⟨g1, g2, g3⟩ := setRow_heap' w b cs (wrAt cs.toList oo v.cells.toList).toArray T (0, 0) hb
        exact hK _ _ _ (hput undef) (hc.setRow _ _) trivial (hw _ g1 g2 g3)
      | some D =>
        obtain ⟨hD, cs, T, hb, h1, h2, h3, hw⟩ := hw
        rw [semAt_eq o a.eval (cl_defer a.eval o (by rw [hcl]; simp)), hs w cs T hb h1 h2 h3]
        obtain ⟨g1, g2, g3⟩ := setRow_heap' w b cs (wrAt cs.toList oo v.cells.toList).toArray T (0, 0) hb
        exact hK _ _ _ (hput undef) (hc.setRow _ _) ⟨by rw [g1]; exact Nat.le_refl _, fun k _ hk => g3 k (fun e => hk (e ▸ hD))⟩ (hw _ g1 g2 g3)
    | new T cs out =>
      rw [hcl] at hw hs
      rw [semAt_eq o a.eval (cl_defer a.eval o (by rw [hcl]; simp)), hs w]
      exact hK _ _ _ (hput _) (hc.alloc _) (Kp.of _ ⟨by simp, fun b hb _ => by simp only [World.alloc, Array.getElem?_push]; rw [if_neg (by omega)]⟩) hw
    | call f args =>
      rw [hcl] at hw hs
      rw [semAt_eq o a.eval (cl_defer a.eval o (by rw [hcl]; simp)), hs w, hw.1 args w]
      refine ⟨fun h => by simp [Fe, Fence.wide] at h, ?_⟩
      refine CallsIn.mono (R := Ret fun v w' => Ctx c w' ∧ Kp e w.heap w'.heap ∧ (k (s.put o.dst v)).wp c P ro n w'.heap Q) ?_ ?_
      · have := (callsIn_wide (n := 0 - 1)).2 (hw.2 w rfl hc)
        exact this
      · intro x w' hx
        cases x with
        | returned v => exact hK _ _ _ (hput v) hx.1 hx.2.1 hx.2.2
        | _ => exact hx.elim
    | round l args =>
      rw [hcl] at hw hs
      cases e with
      | some D => exact hw.elim
      | none =>
        obtain ⟨f, tmps, as, bd, hy, hr⟩ := hw w rfl hc
        rw [semAt_eq o a.eval (cl_defer a.eval o (by rw [hcl]; simp)), hs w, hy]
        refine ⟨fun h => by simp [Fe, Fence.wide] at h, hr.mono ?_⟩
        intro x w' hx
        cases x with
        | returned v => exact hK _ _ _ (hput v) hx.1 trivial hx.2
        | _ => exact hx.elim
    | sem x =>
      rw [hcl] at hw hs
      obtain ⟨v, w', hr, hc', hchg, hw⟩ := hw w rfl hc
      rw [semAt_eq o a.eval (cl_defer a.eval o (by rw [hcl]; simp)), hs w, hr]
      exact hK _ _ _ (hput v) hc' hchg hw
    | semU x =>
      rw [hcl] at hw hs
      obtain ⟨v, w', hr, hc', hchg, hw⟩ := hw w rfl hc
      rw [semAt_eq o a.eval (cl_defer a.eval o (by rw [hcl]; simp)), hs w, hr]
      exact hK _ _ _ (hput undef) hc' hchg hw

theorem upd_same {ρ : Env} {d : Nat} {v : Value} (h : ρ d = v) : upd ρ d v = ρ := by
  funext t
  unfold upd
  cases hb : Nat.beq t d with
  | false => rfl
  | true => rw [Nat.eq_of_beq_eq_true hb]; exact h.symm

/-- one operation behind its guard -/
theorem g_sound (hL : LayOk L P) {ops : Array Oper} {e : Option (List Nat)} {o : Oper} {s : St} {k : St → X} {h : Hp} {Q : Exit → St → Hp → Prop} (hw : (gX L n ops e o s k).wp c P ro n h Q)
    {a : Act} {w : World} (ha : Rel n a s) (hh : w.heap = h) (hc : Ctx c w) (K : Act → World → Prop) (Q' : Exit → Act → World → Prop)
    (hK : ∀ a' w' s', Rel n a' s' → Ctx c w' → Kp e h w'.heap → (k s').wp c P ro n w'.heap Q → K a' w') :
    (if Region.wanted o (yielded ops a.tmps) then o.wpIn (Fe ro) 0 P a w K Q' else (∀ f, o.about P w a.eval = some f → (Fe ro).fn f) ∧ K (a.put o.dst undef) w) := by
  unfold gX at hw
  cases hg : o.guard with
  | none =>
    rw [hg] at hw
    simp only [Region.wanted, hg, if_true]
    exact op_sound hL hw ha hh hc K Q' hK
  | some jb =>
    obtain ⟨j, b⟩ := jb
    rw [hg] at hw
    simp only at hw
    cases hd : (ops[j]?).bind (·.dst) with
    | none => rw [hd] at hw; exact hw.elim
    | some d =>
      rw [hd] at hw
      simp only at hw
      cases hn : Nat.blt d n with
      | false => rw [hn] at hw; exact hw.elim
      | true =>
        rw [hn, cond_true] at hw
        have hdn : d < n := by simpa [Nat.blt_eq] using hn
        have hcell : a.tmps[d]? = some (s.ρ d) := by
          have h1 := ha.2.2 d
          have h2 : d < a.tmps.size := by rw [ha.1]; exact hdn
          simp only [Array.getD_eq_getD_getElem?, Array.getElem?_eq_getElem h2, Option.getD_some] at h1
          rw [Array.getElem?_eq_getElem h2, h1]
        have hy : yielded ops a.tmps j = (match s.ρ d with | .bool b => some b | _ => none) := by
          unfold yielded
          rw [hd]
          simp only [Option.bind_some, hcell]
          split <;> rename_i hx <;> simp only [Option.some.injEq] at hx <;> first | (rw [hx]) | (split <;> simp_all)
        cases hv : s.ρ d with
        | bool t =>
          rw [hv] at hw hy
          simp only at hw hy
          have ha1 : Rel n a ⟨upd s.ρ d (.bool t), s.ds⟩ := by rw [upd_same hv]; exact ha
          have skip : ∀ b', okDst n o.dst = true → ((k (St.put ⟨upd s.ρ d (.bool t), s.ds⟩ o.dst undef)).wp c P ro n h Q) → b' ≠ t → b = b' →
              (if Region.wanted o (yielded ops a.tmps) then o.wpIn (Fe ro) 0 P a w K Q' else (∀ f, o.about P w a.eval = some f → (Fe ro).fn f) ∧ K (a.put o.dst undef) w) := by
            intro b' hok hk hne hb
            have : Region.wanted o (yielded ops a.tmps) = false := by
              simp only [Region.wanted, hg, hy, hb]
              cases b' <;> cases t <;> simp_all
            rw [this]
            exact ⟨fun _ _ => trivial, hK _ _ _ (ha1.put _ hok _) hc (by rw [hh]; exact Kp.refl _ _) (by rw [hh]; exact hk)⟩
          have doit : b = t → ((opX L n e o ⟨upd s.ρ d (.bool t), s.ds⟩ k).wp c P ro n h Q) →
              (if Region.wanted o (yielded ops a.tmps) then o.wpIn (Fe ro) 0 P a w K Q' else (∀ f, o.about P w a.eval = some f → (Fe ro).fn f) ∧ K (a.put o.dst undef) w) := by
            intro hb hk
            have : Region.wanted o (yielded ops a.tmps) = true := by
              simp only [Region.wanted, hg, hy, hb]
              cases t <;> rfl
            rw [this, if_pos rfl]
            exact op_sound hL hk ha1 hh hc K Q' hK
          cases t with
          | true =>
            have hw := hw.1 rfl
            cases b with
            | true => exact doit rfl hw
            | false =>
              simp only [cond_false] at hw
              cases hok : okDst n o.dst with
              | false => rw [hok] at hw; exact hw.elim
              | true => rw [hok] at hw; exact skip false hok hw (by simp) rfl
          | false =>
            have hw := hw.2 rfl
            cases b with
            | false => exact doit rfl hw
            | true =>
              simp only [cond_true] at hw
              cases hok : okDst n o.dst with
              | false => rw [hok] at hw; exact hw.elim
              | true => rw [hok] at hw; exact skip true hok hw (by simp) rfl
        | tuple vs =>
          rw [hv] at hw hy
          simp only at hw hy
          have hnw : Region.wanted o (yielded ops a.tmps) = false := by
            simp only [Region.wanted, hg, hy]
            cases b <;> rfl
          rw [hnw]
          cases hok : okDst n o.dst with
          | false => rw [hok] at hw; exact hw.elim
          | true =>
            rw [hok] at hw
            exact ⟨fun _ _ => trivial, hK _ _ _ (ha.put _ hok _) hc (by rw [hh]; exact Kp.refl _ _) (by rw [hh]; exact hw)⟩
        | _ => rw [hv] at hw; exact hw.elim

theorem ops_sound (hL : LayOk L P) {ops : Array Oper} {Q : Exit → St → Hp → Prop} {k : St → X} (Q' : Exit → Act → World → Prop)
    (hQ : ∀ a' w' s', Rel n a' s' → Ctx c w' → (k s').wp c P ro n w'.heap Q → Q' .normal a' w') :
    ∀ (l : List Oper) (s : St) (a : Act) (w : World), (opsX L n ops l s k).wp c P ro n w.heap Q → Rel n a s → Ctx c w → wpListIn (Fe ro) 0 P ops Q' l a w
  | [], s, a, w, hw, ha, hc => hQ a w s ha hc hw
  | _ :: rest, _, _, _, hw, ha, hc =>
    g_sound hL (k := fun s' => opsX L n ops rest s' k) hw ha rfl hc (wpListIn (Fe ro) 0 P ops Q' rest) Q' fun a' w' s' ha' hc' _ hw' => ops_sound hL Q' hQ rest s' a' w' hw' ha' hc'

/-- the code -/
theorem pe_sound (hL : LayOk L P) : ∀ (cd : Code) (s : St) (k : Exit → St → X) (Q : Exit → St → Hp → Prop) (a : Act) (w : World),
    (pe L n cd s k).wp c P ro n w.heap Q → Rel n a s → Ctx c w →
    cd.wpIn (Fe ro) 0 P (fun e a' w' => ∃ s', Rel n a' s' ∧ Ctx c w' ∧ (k e s').wp c P ro n w'.heap Q) a w
  | .skip, s, k, Q, a, w, hw, ha, hc => wpIn_skip ⟨s, ha, hc, hw⟩
  | .ret, s, k, Q, a, w, hw, ha, hc => wpIn_ret ⟨s, ha, hc, hw⟩
  | .exit id, s, k, Q, a, w, hw, ha, hc => wpIn_exit ⟨s, ha, hc, hw⟩
  | .region id ops false, s, k, Q, a, w, hw, ha, hc =>
    wpIn_region_list (ops_sound hL _ (fun a' w' s' ha' hc' hw' => ⟨s', ha', hc', hw'⟩) ops.toList s a w hw ha hc)
  | .region id ops true, s, k, Q, a, w, hw, ha, hc =>
    wpIn_mono (hw w a rfl hc ha) fun e a' w' ⟨s', he, h1, _, _, h2, h3⟩ => by subst he; exact ⟨s', h1, h2, h3⟩
  | .seq x y, s, k, Q, a, w, hw, ha, hc => by
    refine wpIn_seq (wpIn_mono (pe_sound hL x s _ Q a w hw ha hc) ?_)
    rintro e a' w' ⟨s', h1, h2, h3⟩
    cases e with
    | normal => exact pe_sound hL y s' k Q a' w' h3 h1 h2
    | ret => exact ⟨s', h1, h2, h3⟩
    | exit id => exact ⟨s', h1, h2, h3⟩
    | _ => exact h3.elim
  | .cond t x y, s, k, Q, a, w, hw, ha, hc => by
    simp only [pe] at hw
    cases hv : ev s.ρ t with
    | bool b =>
      rw [hv] at hw
      refine wpIn_cond_split (t := b) (by rw [eval_eq ha]; exact hv) (fun hb => ?_) (fun hb => ?_)
      · exact pe_sound hL x s k Q a w (hw.1 hb) ha hc
      · exact pe_sound hL y s k Q a w (hw.2 hb) ha hc
    | _ => rw [hv] at hw; exact hw.elim
  | .block id x, s, k, Q, a, w, hw, ha, hc => by
    refine wpIn_block (wpIn_mono (pe_sound hL x s _ Q a w hw ha hc) ?_)
    rintro e a' w' ⟨s', h1, h2, h3⟩
    cases e with
    | normal => exact ⟨s', h1, h2, h3⟩
    | ret => exact ⟨s', h1, h2, h3⟩
    | exit j =>
      simp only [Exit.inBlock]
      cases hb : Nat.beq j id with
      | true =>
        simp only [hb, cond_true] at h3
        rw [if_pos (Nat.eq_of_beq_eq_true hb)]
        exact ⟨s', h1, h2, h3⟩
      | false =>
        simp only [hb, cond_false] at h3
        rw [if_neg (fun h => by rw [h, Nat.beq_refl] at hb; cases hb)]
        exact ⟨s', h1, h2, h3⟩
    | _ => exact h3.elim
  | .loop x, s, k, Q, a, w, hw, ha, hc => wpIn_mono (hw w a rfl hc ha) fun e a' w' ⟨s', h1, _, _, h2, h3⟩ => ⟨s', h1, h2, h3⟩
  | .rangeFunc g ps as bd, s, k, Q, a, w, hw, ha, hc => wpIn_mono (hw w a rfl hc ha) fun e a' w' ⟨s', h1, _, h2, h3⟩ => ⟨s', h1, h2, h3⟩
  | .scope _, _, _, _, _, _, hw, _, _ => hw.elim
  | .label _, _, _, _, _, _, hw, _, _ => hw.elim
  | .goto _, _, _, _, _, _, hw, _, _ => hw.elim
  | .refuse _, _, _, _, _, _, hw, _, _ => hw.elim
end sound
end Go.Xe
namespace Go.Xe
open Go

theorem Agr.refl (M : Nat → Bool) (s : St) : Agr M s s := fun _ _ => rfl
theorem Agr.trans {M : Nat → Bool} {a b c : St} (h : Agr M a b) (h' : Agr M b c) : Agr M a c := fun t ht => (h' t ht).trans (h t ht)
theorem Agr.mono {M M' : Nat → Bool} {a b : St} (h : Agr M a b) (hm : ∀ t, M t = true → M' t = true) : Agr M' a b := fun t ht => h t (by
  cases hx : M t with
  | false => rfl
  | true => rw [hm t hx] at ht; cases ht)
theorem Agr.put {M : Nat → Bool} (s : St) (d : Option Nat) (v : Value) (h : ∀ t, d = some t → M t = true) : Agr M s (s.put d v) := fun t ht => by
  cases d with
  | none => rfl
  | some d =>
    simp only [St.put, upd]
    cases hb : Nat.beq t d with
    | false => rfl
    | true =>
      have := h d rfl
      rw [← Nat.eq_of_beq_eq_true hb, ht] at this
      cases this

def noRF : Code → Bool
  | .seq a b => noRF a && noRF b
  | .cond _ a b => noRF a && noRF b
  | .block _ a => noRF a
  | .loop a => noRF a
  | .rangeFunc .. => false
  | _ => true

section
variable {L : Lay} {P : Program} {c : World} {ro : Option Nat} {n : Nat}

theorem Fr.ds_put (s : St) (d : Option Nat) (v : Value) : (s.put d v).ds = s.ds := by cases d <;> rfl

theorem op_mono {M : Nat → Bool} {e : Option (List Nat)} {o : Oper} {s : St} {k k' : St → X} {h : Hp} {Q Q' : Exit → St → Hp → Prop} (hM : ∀ t, o.dst = some t → M t = true)
    (hk : ∀ s' h', Agr M s s' → s'.ds = s.ds → (k s').wp c P ro n h' Q → (k' s').wp c P ro n h' Q') (hw : (opX L n e o s k).wp c P ro n h Q) : (opX L n e o s k').wp c P ro n h Q' := by
  unfold opX at hw ⊢
  cases hd : okDst n o.dst with
  | false => rw [hd] at hw; exact hw.elim
  | true =>
    rw [hd, cond_true] at hw
    rw [cond_true]
    have hp := fun v => Agr.put (M := M) s o.dst v hM
    have hds := fun v => Fr.ds_put s o.dst v
    cases hcl : cl L (ev s.ρ) o with
    | bad => rw [hcl] at hw; exact hw.elim
    | pure v => rw [hcl] at hw; exact hk _ _ (hp _) (hds _) hw
    | chk p v => rw [hcl] at hw; exact ⟨hw.1, hk _ _ (hp _) (hds _) hw.2⟩
    | br t x y => rw [hcl] at hw; exact ⟨fun ht => hk _ _ (hp _) (hds _) (hw.1 ht), fun ht => hk _ _ (hp _) (hds _) (hw.2 ht)⟩
    | load b oo i => rw [hcl] at hw; obtain ⟨v, h1, h2⟩ := hw; exact ⟨v, h1, hk _ _ (hp _) (hds _) h2⟩
    | store b oo i v =>
      rw [hcl] at hw
      cases e with
      | some D =>
        obtain ⟨hD, cs, T, h1, h2, h3, h4, h5⟩ := hw
        exact ⟨hD, cs, T, h1, h2, h3, h4, fun h' a b d => hk _ _ (hp _) (hds _) (h5 h' a b d)⟩
      | none =>
        obtain ⟨cs, T, h1, h2, h3, h4, h5⟩ := hw
        exact ⟨cs, T, h1, h2, h3, h4, fun h' a b d => hk _ _ (hp _) (hds _) (h5 h' a b d)⟩
    | new T cs out => rw [hcl] at hw; exact hk _ _ (hp _) (hds _) hw
    | call f args => rw [hcl] at hw; exact hw.mono fun v h' hv => ⟨hv.1, hk _ _ (hp _) (hds _) hv.2⟩
    | round l args =>
      rw [hcl] at hw
      cases e with
      | some D => exact hw.elim
      | none =>
        intro w hh hc
        obtain ⟨f, tmps, as, bd, h1, h2⟩ := hw w hh hc
        refine ⟨f, tmps, as, bd, h1, h2.mono ?_⟩
        intro x w' hx
        cases x with
        | returned v => exact ⟨hx.1, hk _ _ (hp _) (hds _) hx.2⟩
        | _ => exact hx.elim
    | sem x => rw [hcl] at hw; intro w hh hc; obtain ⟨v, w', h1, h2, h3, h4⟩ := hw w hh hc; exact ⟨v, w', h1, h2, h3, hk _ _ (hp _) (hds _) h4⟩
    | semU x => rw [hcl] at hw; intro w hh hc; obtain ⟨v, w', h1, h2, h3, h4⟩ := hw w hh hc; exact ⟨v, w', h1, h2, h3, hk _ _ (hp _) (hds _) h4⟩

theorem g_mono {M : Nat → Bool} {ops : Array Oper} {e : Option (List Nat)} {o : Oper} {s : St} {k k' : St → X} {h : Hp} {Q Q' : Exit → St → Hp → Prop} (hM : ∀ t, o.dst = some t → M t = true)
    (hk : ∀ s' h', Agr M s s' → s'.ds = s.ds → (k s').wp c P ro n h' Q → (k' s').wp c P ro n h' Q') (hw : (gX L n ops e o s k).wp c P ro n h Q) : (gX L n ops e o s k').wp c P ro n h Q' := by
  unfold gX at hw ⊢
  cases hg : o.guard with
  | none => rw [hg] at hw; exact op_mono hM hk hw
  | some jb =>
    obtain ⟨j, b⟩ := jb
    rw [hg] at hw
    simp only at hw ⊢
    cases hd : (ops[j]?).bind (·.dst) with
    | none => rw [hd] at hw; exact hw.elim
    | some d =>
      rw [hd] at hw
      simp only at hw ⊢
      cases hn : Nat.blt d n with
      | false => rw [hn] at hw; exact hw.elim
      | true =>
        rw [hn, cond_true] at hw
        rw [cond_true]
        cases hv : s.ρ d with
        | bool t =>
          rw [hv] at hw
          simp only at hw ⊢
          have h1 : ∀ t' : Bool, t = t' → Agr M s ⟨upd s.ρ d (.bool t'), s.ds⟩ := fun t' ht => by rw [upd_same (by rw [hv, ht])]; exact Agr.refl _ _
          have hskip : ∀ t' : Bool, t = t' → (bif okDst n o.dst then k (St.put ⟨upd s.ρ d (.bool t'), s.ds⟩ o.dst undef) else .fail).wp c P ro n h Q →
              (bif okDst n o.dst then k' (St.put ⟨upd s.ρ d (.bool t'), s.ds⟩ o.dst undef) else .fail).wp c P ro n h Q' := fun t' ht hx => by
            cases hok : okDst n o.dst with
            | false => rw [hok] at hx; exact hx.elim
            | true => rw [hok] at hx; exact hk _ _ ((h1 t' ht).trans (Agr.put _ _ _ hM)) (Fr.ds_put _ _ _) hx
          have hdo : ∀ t' : Bool, t = t' → (opX L n e o ⟨upd s.ρ d (.bool t'), s.ds⟩ k).wp c P ro n h Q → (opX L n e o ⟨upd s.ρ d (.bool t'), s.ds⟩ k').wp c P ro n h Q' := fun t' ht hx =>
            op_mono hM (fun s' h' ha hds hx => hk s' h' ((h1 t' ht).trans ha) hds hx) hx
          refine ⟨fun ht => ?_, fun ht => ?_⟩
          · have hx := hw.1 ht
            cases b with
            | true => exact hdo _ ht hx
            | false => exact hskip _ ht hx
          · have hx := hw.2 ht
            cases b with
            | true => exact hskip _ ht hx
            | false => exact hdo _ ht hx
        | tuple vs =>
          rw [hv] at hw
          simp only at hw ⊢
          cases hok : okDst n o.dst with
          | false => rw [hok] at hw; exact hw.elim
          | true => rw [hok] at hw; exact hk _ _ (Agr.put _ _ _ hM) (Fr.ds_put _ _ _) hw
        | _ => rw [hv] at hw; exact hw.elim

theorem ops_mono {M : Nat → Bool} {ops : Array Oper} {k k' : St → X} {Q Q' : Exit → St → Hp → Prop} : ∀ (l : List Oper) (s : St) (h : Hp), (∀ t, opsMod l t = true → M t = true) →
    (∀ s' h', Agr M s s' → s'.ds = s.ds → (k s').wp c P ro n h' Q → (k' s').wp c P ro n h' Q') → (opsX L n ops l s k).wp c P ro n h Q → (opsX L n ops l s k').wp c P ro n h Q'
  | [], s, h, _, hk, hw => hk s h (Agr.refl _ _) rfl hw
  | o :: rest, s, h, hM, hk, hw =>
    g_mono (M := M) (fun t ht => hM t (by simp [opsMod, ht])) (fun s' h' ha hds hx =>
      ops_mono rest s' h' (fun t ht => hM t (by simp [opsMod, ht])) (fun s2 h2 ha2 hds2 hx2 => hk s2 h2 (ha.trans ha2) (hds2.trans hds) hx2) hx) hw

theorem pe_mono {M : Nat → Bool} : ∀ (cd : Code) (s : St) (k k' : Exit → St → X) (h : Hp) (Q Q' : Exit → St → Hp → Prop), (∀ t, modB cd t = true → M t = true) →
    (∀ e s' h', Agr M s s' → (noRF cd = true → s'.ds = s.ds) → (k e s').wp c P ro n h' Q → (k' e s').wp c P ro n h' Q') → (pe L n cd s k).wp c P ro n h Q → (pe L n cd s k').wp c P ro n h Q'
  | .skip, s, _, _, h, _, _, _, hk, hw => hk _ s h (Agr.refl _ _) (fun _ => rfl) hw
  | .ret, s, _, _, h, _, _, _, hk, hw => hk _ s h (Agr.refl _ _) (fun _ => rfl) hw
  | .exit _, s, _, _, h, _, _, _, hk, hw => hk _ s h (Agr.refl _ _) (fun _ => rfl) hw
  | .region _ ops false, s, _, _, h, _, _, hM, hk, hw => ops_mono ops.toList s h hM (fun s' h' ha hds hx => hk _ s' h' ha (fun _ => hds) hx) hw
  | .region _ ops true, s, _, _, h, _, _, hM, hk, hw => fun w a hh hc ha => wpIn_mono (hw w a hh hc ha) fun e a' w' ⟨s', he, h1, h2, h3, h4, h5⟩ =>
      ⟨s', he, h1, h2, h3, h4, hk _ s' _ (h2.mono hM) (fun _ => h3) h5⟩
  | .seq x y, s, k, k', h, Q, Q', hM, hk, hw => by
    refine pe_mono (M := M) x s _ _ h Q Q' (fun t ht => hM t (by simp [modB, ht])) (fun e s' h' ha hds hx => ?_) hw
    cases e with
    | normal =>
      exact pe_mono (M := M) y s' k k' h' Q Q' (fun t ht => hM t (by simp [modB, ht])) (fun e2 s2 h2 ha2 hds2 hx2 =>
        hk e2 s2 h2 (ha.trans ha2) (fun hn => by simp only [noRF, Bool.and_eq_true] at hn; exact (hds2 hn.2).trans (hds hn.1)) hx2) hx
    | ret => exact hk _ s' h' ha (fun hn => by simp only [noRF, Bool.and_eq_true] at hn; exact hds hn.1) hx
    | exit id => exact hk _ s' h' ha (fun hn => by simp only [noRF, Bool.and_eq_true] at hn; exact hds hn.1) hx
    | _ => exact hx.elim
  | .cond t x y, s, k, k', h, Q, Q', hM, hk, hw => by
    simp only [pe] at hw ⊢
    cases hv : ev s.ρ t with
    | bool b =>
      rw [hv] at hw
      refine ⟨fun hb => ?_, fun hb => ?_⟩
      · exact pe_mono (M := M) x s k k' h Q Q' (fun t ht => hM t (by simp [modB, ht])) (fun e s' h' ha hds hx => hk e s' h' ha (fun hn => by simp only [noRF, Bool.and_eq_true] at hn; exact hds hn.1) hx) (hw.1 hb)
      · exact pe_mono (M := M) y s k k' h Q Q' (fun t ht => hM t (by simp [modB, ht])) (fun e s' h' ha hds hx => hk e s' h' ha (fun hn => by simp only [noRF, Bool.and_eq_true] at hn; exact hds hn.2) hx) (hw.2 hb)
    | _ => rw [hv] at hw; exact hw.elim
  | .block id x, s, k, k', h, Q, Q', hM, hk, hw => by
    refine pe_mono (M := M) x s _ _ h Q Q' hM (fun e s' h' ha hds hx => ?_) hw
    cases e with
    | normal => exact hk _ s' h' ha hds hx
    | ret => exact hk _ s' h' ha hds hx
    | exit j =>
      simp only at hx ⊢
      cases hb : Nat.beq j id with
      | true => simp only [hb, cond_true] at hx ⊢; exact hk _ s' h' ha hds hx
      | false => simp only [hb, cond_false] at hx ⊢; exact hk _ s' h' ha hds hx
    | _ => exact hx.elim
  | .loop x, s, k, k', h, Q, Q', hM, hk, hw => fun w a hh hc ha => wpIn_mono (hw w a hh hc ha) fun e a' w' ⟨s', h1, h2, h3, h4, h5⟩ =>
      ⟨s', h1, h2, h3, h4, hk _ s' _ (h2.mono hM) (fun _ => h3) h5⟩
  | .rangeFunc g ps as bd, s, k, k', h, Q, Q', hM, hk, hw => fun w a hh hc ha => wpIn_mono (hw w a hh hc ha) fun e a' w' ⟨s', h1, h2, h4, h5⟩ =>
      ⟨s', h1, h2, h4, hk _ s' _ (h2.mono (fun _ ht => by cases ht)) (fun hn => by cases hn) h5⟩
  | .scope _, _, _, _, _, _, _, _, _, hw => hw.elim
  | .label _, _, _, _, _, _, _, _, _, hw => hw.elim
  | .goto _, _, _, _, _, _, _, _, _, hw => hw.elim
  | .refuse _, _, _, _, _, _, _, _, _, hw => hw.elim
end
end Go.Xe
