/- What the walks over trees share: how a tree lies in memory. -/
import Derived.Test.YtebbgoklldmkiaaGreatQ8
import Derived.Test.YtebbgoklldmkiaaGreatQ9
namespace Go.Xe
open Go Go.Proofs
theorem mixed : Tryz.prog.follows .mixedOrders = true := by kernel_rfl

theorem w64 {x : Int} (h1 : -9223372036854775808 ≤ x) (h2 : x < 9223372036854775808) : IntKind.i64.wrap x = x := by
  unfold IntKind.wrap IntKind.bits IntKind.signed
  simp only [Bool.true_and, ge_iff_le, decide_eq_true_eq]
  have e1 : (2 : Int) ^ 64 = 18446744073709551616 := by decide
  have e2 : (2 : Int) ^ (64 - 1) = 9223372036854775808 := by decide
  rw [e1, e2]
  split <;> omega

theorem size_w {a b : Nat} (h : a + b < 1000000) : IntKind.i64.wrap (IntKind.i64.wrap ((a : Int) + b) + 1) = ((a + b + 1 : Nat) : Int) := by
  rw [w64 (x := (a : Int) + b) (by omega) (by omega), w64 (by omega) (by omega)]
  omega

def Bd (M : List Nat) (h : Hp) : Prop := ∀ m, m ∈ M → m < h.size
theorem Bd.chg {M M' : List Nat} {h h' : Hp} (x : Bd M h) (y : Chg M' h h') : Bd M h' := fun m hm => Nat.lt_of_lt_of_le (x m hm) y.size
theorem Bd.fresh {M : List Nat} {h h' : Hp} (x : Bd M h) {b : Nat} {o : Obj} (y : New h h' b o) : b ∉ M := fun hm => by
  have := x b hm
  have := y.le
  omega

def TreeAt {K V : Type} (nt : Nat) (ek : K → List Value) (el : V → List Value) (M : List Nat) (h : Hp) : Tr K V → Option Addr → Prop
  | .leaf, p => p = none
  | .node l k v r, p => ∃ b pl pr, p = some ⟨b, 0, none⟩ ∧ b ∉ M ∧ h[b]? = some (.cells (ek k ++ el v ++ [Value.pointer pl, Value.pointer pr, Value.int .i64 ((Tr.node l k v r).size)]).toArray nt (0, 0)) ∧
      TreeAt nt ek el M h l pl ∧ TreeAt nt ek el M h r pr

section
variable {K V : Type} {nt : Nat} {ek : K → List Value} {el : V → List Value} {M M' : List Nat} {h h' : Hp}
theorem TreeAt.chg (x : Chg M' h h') (hm : ∀ m, m ∈ M' → m ∈ M) : ∀ {t : Tr K V} {p : Option Addr}, TreeAt nt ek el M h t p → TreeAt nt ek el M h' t p
  | .leaf, _, y => y
  | .node _ _ _ _, _, y => by
    obtain ⟨b, pl, pr, h1, h2, h3, h4, h5⟩ := y
    exact ⟨b, pl, pr, h1, h2, x.of h3 (fun hh => h2 (hm b hh)), TreeAt.chg x hm h4, TreeAt.chg x hm h5⟩
theorem TreeAt.ext (x : Chg [] h h') {t : Tr K V} {p : Option Addr} (y : TreeAt nt ek el M h t p) : TreeAt nt ek el M h' t p := y.chg x (by simp)
theorem TreeAt.sub (hm : ∀ m, m ∈ M' → m ∈ M) : ∀ {t : Tr K V} {p : Option Addr}, TreeAt nt ek el M h t p → TreeAt nt ek el M' h t p
  | .leaf, _, y => y
  | .node _ _ _ _, _, y => by
    obtain ⟨b, pl, pr, h1, h2, h3, h4, h5⟩ := y
    exact ⟨b, pl, pr, h1, fun hh => h2 (hm b hh), h3, TreeAt.sub hm h4, TreeAt.sub hm h5⟩
/-- a new block joins those that may be written -/
theorem TreeAt.push {m : Nat} (hm : h.size ≤ m) : ∀ {t : Tr K V} {p : Option Addr}, TreeAt nt ek el M h t p → TreeAt nt ek el (m :: M) h t p
  | .leaf, _, y => y
  | .node _ _ _ _, _, y => by
    obtain ⟨b, pl, pr, h1, h2, h3, h4, h5⟩ := y
    have := (Array.getElem?_eq_some_iff.1 h3).1
    exact ⟨b, pl, pr, h1, fun hh => by rcases List.mem_cons.1 hh with rfl | hh; exact absurd hm (by omega); exact h2 hh, h3, TreeAt.push hm h4, TreeAt.push hm h5⟩
end

theorem size_putT {K V : Type} (lt : K → K → Bool) (k : K) (v : V) : ∀ t : Tr K V, (putT lt k v t).size ≤ t.size + 1
  | .leaf => by simp [putT, Tr.size]
  | .node l a b r => by
    have h1 := size_putT lt k v l
    have h2 := size_putT lt k v r
    simp only [putT]
    split
    · rw [size_bal]; simp only [Tr.size]; omega
    · split
      · rw [size_bal]; simp only [Tr.size]; omega
      · simp only [Tr.size]; omega

theorem wp_callN {P : Program} {c : World} {ro : Option Nat} {n : Nat} {h : Hp} {Q : Exit → St → Hp → Prop} {e : Option (List Nat)} {f : Nat} {args : Array Value} {k : Value → X} {R : Value → Hp → Prop} (hc : Call c P f args h R)
    (hk : ∀ v h', R v h' → Chg [] h h' ∧ (k v).wp c P ro n h' Q) : (X.call e f args k).wp c P ro n h Q := hc.mono fun v h' hv => ⟨Kp.of _ (hk v h' hv).1, (hk v h' hv).2⟩

/-! keys and values -/
structure ClipR where
  no : Int
  name : ByteArray
  owner : ByteArray
structure TotR where
  inn : Int
  air : Int
  live : Int
  cored : Int
  wasted : Int
  sent : Int
def ekI (k : Int) : List Value := [.int .i64 k]
def ekS (k : ByteArray) : List Value := [.string k]
def elInt (v : Int) : List Value := [.int .i64 v]
def elPtr (b : Nat) : List Value := [.pointer (some ⟨b, 0, none⟩)]
def elClip (v : ClipR) : List Value := [.int .i64 v.no, .string v.name, .string v.owner]
def elTot (v : TotR) : List Value := [.int .i64 v.inn, .int .i64 v.air, .int .i64 v.live, .int .i64 v.cored, .int .i64 v.wasted, .int .i64 v.sent]
def vClip (v : ClipR) : Value := .agg #[.int .i64 v.no, .string v.name, .string v.owner]
def vTot (v : TotR) : Value := .agg #[.int .i64 v.inn, .int .i64 v.air, .int .i64 v.live, .int .i64 v.cored, .int .i64 v.wasted, .int .i64 v.sent]
def ltI (a b : Int) : Bool := decide (a < b)
def eqI (a b : Int) : Bool := a == b
def ltS (a b : ByteArray) : Bool := Op.bytesLess a.toList b.toList
def eqS (a b : ByteArray) : Bool := a.toList == b.toList
theorem loI : LO ltI eqI := ⟨by simp [ltI], by simp [ltI]; omega, by simp [ltI]; omega, by simp [eqI]⟩
end Go.Xe
