/- Lemmas on the way: Weight-balanced trees, as plain data: what put and remove do to the list of the pairs. A layout as a tree of tests, and what it owes. -/
import Derived.KernelRfl
import Derived.Test.YtebbgoklldmkiaaGreatQ7
import Derived.Test.YtebbgoklldmkiaaGreatQ5
namespace Go.Xe
open Go

inductive Tr (K V : Type)
  | leaf
  | node (l : Tr K V) (k : K) (v : V) (r : Tr K V)

namespace Tr
variable {K V : Type}
def size : Tr K V → Nat
  | .leaf => 0
  | .node l _ _ r => l.size + r.size + 1
def toL : Tr K V → List (K × V)
  | .leaf => []
  | .node l k v r => l.toL ++ (k, v) :: r.toL
theorem length_toL : ∀ t : Tr K V, t.toL.length = t.size
  | .leaf => rfl
  | .node l k v r => by simp [toL, size, length_toL l, length_toL r]; omega
end Tr

section
variable {K V : Type}
def light (a b : Tr K V) : Bool := decide (b.size + 1 ≤ 3 * (a.size + 1))
def turned (a b : Tr K V) : Bool := decide (a.size + 1 < 2 * (b.size + 1))
def bal (l : Tr K V) (k : K) (v : V) (r : Tr K V) : Tr K V :=
  if light l r = false then match r with
    | .node rl rk rv rr => if turned rl rr = true then .node (.node l k v rl) rk rv rr else match rl with
      | .node ml mk mv mr => .node (.node l k v ml) mk mv (.node mr rk rv rr)
      | .leaf => .leaf
    | .leaf => .leaf
  else if light r l = false then match l with
    | .node ll lk lv lr => if turned lr ll = true then .node ll lk lv (.node lr k v r) else match lr with
      | .node ml mk mv mr => .node (.node ll lk lv ml) mk mv (.node mr k v r)
      | .leaf => .leaf
    | .leaf => .leaf
  else .node l k v r

theorem light_node {l r : Tr K V} (h : light l r = false) : ∃ rl rk rv rr, r = .node rl rk rv rr := by
  cases r with
  | leaf => simp [light, Tr.size] at h
  | node rl rk rv rr => exact ⟨_, _, _, _, rfl⟩
theorem turned_node {a b : Tr K V} (h : turned a b = false) : ∃ rl rk rv rr, a = .node rl rk rv rr := by
  cases a with
  | leaf => simp [turned, Tr.size] at h; omega
  | node rl rk rv rr => exact ⟨_, _, _, _, rfl⟩

theorem toL_bal (l : Tr K V) (k : K) (v : V) (r : Tr K V) : (bal l k v r).toL = l.toL ++ (k, v) :: r.toL := by
  unfold bal
  split
  · rename_i h
    obtain ⟨rl, rk, rv, rr, rfl⟩ := light_node h
    simp only
    split
    · simp [Tr.toL]
    · rename_i ht
      obtain ⟨_, _, _, _, rfl⟩ := turned_node (by simpa using ht)
      simp [Tr.toL]
  · split
    · rename_i h
      obtain ⟨rl, rk, rv, rr, rfl⟩ := light_node h
      simp only
      split
      · simp [Tr.toL]
      · rename_i ht
        obtain ⟨_, _, _, _, rfl⟩ := turned_node (by simpa using ht)
        simp [Tr.toL]
    · rfl
theorem size_bal (l : Tr K V) (k : K) (v : V) (r : Tr K V) : (bal l k v r).size = l.size + r.size + 1 := by
  rw [← Tr.length_toL, toL_bal]
  simp [Tr.length_toL]
  omega

/-- a strict order of the keys, and equality -/
structure LO (lt eq : K → K → Bool) : Prop where
  irr : ∀ a, lt a a = false
  tr : ∀ a b c, lt a b = true → lt b c = true → lt a c = true
  tri : ∀ a b, lt a b = false → lt b a = false → a = b
  eq : ∀ a b, eq a b = true ↔ a = b

def SortedK (lt : K → K → Bool) (xs : List (K × V)) : Prop := xs.Pairwise fun a b => lt a.1 b.1 = true

def putT (lt : K → K → Bool) (k : K) (v : V) : Tr K V → Tr K V
  | .leaf => .node .leaf k v .leaf
  | .node l a b r => if lt k a = true then bal (putT lt k v l) a b r else if lt a k = true then bal l a b (putT lt k v r) else .node l k v r

def insL (lt : K → K → Bool) (k : K) (v : V) : List (K × V) → List (K × V)
  | [] => [(k, v)]
  | (a, b) :: xs => if lt k a = true then (k, v) :: (a, b) :: xs else if lt a k = true then (a, b) :: insL lt k v xs else (k, v) :: xs

def findT (lt eq : K → K → Bool) (k : K) : Tr K V → Tr K V
  | .leaf => .leaf
  | .node l a b r => if eq a k = true then .node l a b r else if lt k a = true then findT lt eq k l else findT lt eq k r

def getL (eq : K → K → Bool) (k : K) : List (K × V) → Option V
  | [] => none
  | (a, b) :: xs => if eq a k = true then some b else getL eq k xs

def delL (eq : K → K → Bool) (k : K) : List (K × V) → List (K × V)
  | [] => []
  | (a, b) :: xs => if eq a k = true then xs else (a, b) :: delL eq k xs

variable {lt eq : K → K → Bool}

theorem insL_left (k : K) (v : V) : ∀ (A : List (K × V)) (a : K) (b : V) (B : List (K × V)), lt k a = true → insL lt k v (A ++ (a, b) :: B) = insL lt k v A ++ (a, b) :: B
  | [], a, b, B, h => by simp [insL, h]
  | (x, y) :: A, a, b, B, h => by
    simp only [List.cons_append, insL]
    split
    · rfl
    · split
      · rw [insL_left k v A a b B h]; rfl
      · rfl

theorem insL_right (hlo : LO lt eq) (k : K) (v : V) : ∀ (A B : List (K × V)), (∀ x, x ∈ A → lt x.1 k = true) → insL lt k v (A ++ B) = A ++ insL lt k v B
  | [], _, _ => rfl
  | (x, y) :: A, B, h => by
    have h1 := h (x, y) (List.mem_cons_self ..)
    have h2 : lt k x = false := by
      cases hx : lt k x with
      | false => rfl
      | true => have := hlo.tr _ _ _ h1 hx; rw [hlo.irr] at this; cases this
    simp only [List.cons_append, insL, h2, Bool.false_eq_true, if_false, h1, if_true]
    rw [insL_right hlo k v A B fun z hz => h z (List.mem_cons_of_mem _ hz)]

theorem sorted_mid {A B : List (K × V)} {k : K} {v : V} (h : SortedK lt (A ++ (k, v) :: B)) : SortedK lt A ∧ SortedK lt B ∧ (∀ x, x ∈ A → lt x.1 k = true) ∧ (∀ x, x ∈ B → lt k x.1 = true) := by
  unfold SortedK at *
  rw [List.pairwise_append] at h
  obtain ⟨h1, h2, h3⟩ := h
  rw [List.pairwise_cons] at h2
  exact ⟨h1, h2.2, fun x hx => h3 x hx (k, v) (List.mem_cons_self ..), fun x hx => h2.1 x hx⟩

theorem toL_putT (hlo : LO lt eq) (k : K) (v : V) : ∀ t : Tr K V, SortedK lt t.toL → (putT lt k v t).toL = insL lt k v t.toL
  | .leaf, _ => rfl
  | .node l a b r, h => by
    obtain ⟨h1, h2, h3, h4⟩ := sorted_mid h
    simp only [putT, Tr.toL]
    split
    · rename_i hk
      rw [toL_bal, toL_putT hlo k v l h1, insL_left k v l.toL a b r.toL hk]
    · rename_i hk
      split
      · rename_i hk2
        rw [toL_bal, toL_putT hlo k v r h2, insL_right hlo k v l.toL _ fun x hx => hlo.tr _ _ _ (h3 x hx) hk2]
        simp [insL, hk, hk2]
      · rename_i hk2
        have : k = a := hlo.tri k a (by simpa using hk) (by simpa using hk2)
        subst this
        simp only [Tr.toL]
        rw [insL_right hlo k v l.toL _ h3]
        simp [insL, hlo.irr]

theorem mem_insL (hlo : LO lt eq) {k : K} {v : V} : ∀ {xs : List (K × V)} {x : K × V}, x ∈ insL lt k v xs → x = (k, v) ∨ x ∈ xs
  | [], x, h => by simpa [insL] using h
  | (a, b) :: xs, x, h => by
    simp only [insL] at h
    split at h
    · rcases List.mem_cons.1 h with h | h
      · exact .inl h
      · exact .inr h
    · split at h
      · rcases List.mem_cons.1 h with h | h
        · exact .inr (h ▸ List.mem_cons_self ..)
        · exact (mem_insL hlo h).imp id (List.mem_cons_of_mem _)
      · rcases List.mem_cons.1 h with h | h
        · exact .inl h
        · exact .inr (List.mem_cons_of_mem _ h)

theorem sorted_insL (hlo : LO lt eq) (k : K) (v : V) : ∀ xs : List (K × V), SortedK lt xs → SortedK lt (insL lt k v xs)
  | [], _ => by simp [insL, SortedK]
  | (a, b) :: xs, h => by
    have h' : SortedK lt ([] ++ (a, b) :: xs) := h
    obtain ⟨_, h2, _, h4⟩ := sorted_mid h'
    unfold SortedK at *
    simp only [insL]
    split
    · rename_i hk
      refine List.pairwise_cons.2 ⟨fun x hx => ?_, h⟩
      rcases List.mem_cons.1 hx with rfl | hx
      · exact hk
      · exact hlo.tr _ _ _ hk (h4 x hx)
    · split
      · rename_i hk2
        refine List.pairwise_cons.2 ⟨fun x hx => ?_, sorted_insL hlo k v xs h2⟩
        rcases mem_insL hlo hx with rfl | hx
        · exact hk2
        · exact h4 x hx
      · rename_i hk hk2
        have : k = a := hlo.tri k a (by simpa using hk) (by simpa using hk2)
        subst this
        exact List.pairwise_cons.2 ⟨h4, h2⟩

theorem getL_right (k : K) : ∀ (A B : List (K × V)), (∀ x, x ∈ A → eq x.1 k = false) → getL eq k (A ++ B) = getL eq k B
  | [], _, _ => rfl
  | (x, y) :: A, B, h => by
    have h1 := h (x, y) (List.mem_cons_self ..)
    simp only [List.cons_append, getL, h1, Bool.false_eq_true, if_false]
    exact getL_right k A B fun z hz => h z (List.mem_cons_of_mem _ hz)

theorem getL_none (k : K) (A : List (K × V)) (h : ∀ x, x ∈ A → eq x.1 k = false) : getL eq k A = none := by
  have := getL_right k A [] h
  simpa [getL] using this

theorem getL_left (k : K) : ∀ (A B : List (K × V)), (∀ x, x ∈ B → eq x.1 k = false) → getL eq k (A ++ B) = getL eq k A
  | [], B, h => getL_none k B h
  | (x, y) :: A, B, h => by
    simp only [List.cons_append, getL]
    rw [getL_left k A B h]

theorem LO.ne (hlo : LO lt eq) {a b : K} (h : lt a b = true) : eq a b = false ∧ eq b a = false := by
  constructor
  · cases hx : eq a b with
    | false => rfl
    | true => rw [(hlo.eq _ _).1 hx, hlo.irr] at h; cases h
  · cases hx : eq b a with
    | false => rfl
    | true => rw [(hlo.eq _ _).1 hx, hlo.irr] at h; cases h

/-- what is found: the node of the key, if it is there -/
def FindOk (eq : K → K → Bool) (k : K) (xs : List (K × V)) : Tr K V → Prop
  | .leaf => getL eq k xs = none
  | .node _ a b _ => a = k ∧ getL eq k xs = some b

theorem FindOk.congr {k : K} {xs ys : List (K × V)} {res : Tr K V} (h : getL eq k xs = getL eq k ys) (x : FindOk eq k ys res) : FindOk eq k xs res := by
  cases res with
  | leaf => exact h.trans x
  | node l a b r => exact ⟨x.1, h.trans x.2⟩

theorem findT_get (hlo : LO lt eq) (k : K) : ∀ t : Tr K V, SortedK lt t.toL → FindOk eq k t.toL (findT lt eq k t)
  | .leaf, _ => rfl
  | .node l a b r, h => by
    obtain ⟨h1, h2, h3, h4⟩ := sorted_mid h
    simp only [findT, Tr.toL]
    by_cases he : eq a k = true
    · rw [if_pos he]
      have := (hlo.eq _ _).1 he
      subst this
      refine ⟨rfl, ?_⟩
      rw [getL_right _ _ _ fun x hx => (hlo.ne (h3 x hx)).1]
      simp [getL, (hlo.eq a a).2 rfl]
    · rw [if_neg he]
      by_cases hk : lt k a = true
      · rw [if_pos hk]
        have ih := findT_get hlo k l h1
        refine ih.congr (getL_left k l.toL ((a, b) :: r.toL) fun x hx => ?_)
        rcases List.mem_cons.1 hx with rfl | hx
        · exact (hlo.ne hk).2
        · exact (hlo.ne (hlo.tr _ _ _ hk (h4 x hx))).2
      · rw [if_neg hk]
        have hk2 : lt a k = true := by
          cases hx : lt a k with
          | true => rfl
          | false => exact absurd ((hlo.eq _ _).2 (hlo.tri _ _ hx (by simpa using hk))) (by simpa using he)
        have ih := findT_get hlo k r h2
        refine ih.congr ((getL_right k l.toL ((a, b) :: r.toL) fun x hx => (hlo.ne (hlo.tr _ _ _ (h3 x hx) hk2)).1).trans ?_)
        simp only [getL]
        rw [if_neg he]
end
end Go.Xe
namespace Go.Xe
open Go
def leaf (T0 : Nat) (i : TI) : Lay := fun T => bif Nat.beq T T0 then some i else none
def node (p : Nat) (l r : Lay) : Lay := fun T => bif Nat.blt T p then l T else r T

def okFlds (L : Lay) : TypeDesc → Bool
  | .struct fs => fs.toList.all fun f => (L f.type).isSome
  | _ => true

structure G (P : Program) (L : Lay) (T : Nat) (i : TI) : Prop where
  und : P.underlying T = some i.desc
  inf : ∃ x, P.info? T = some x ∧ x.zero = some i.zero ∧ x.size = i.size ∧ x.bytes = i.bytes
  zsz : i.zero.cells.size = i.size
  fld : okFlds L i.desc = true

theorem info_at {P : Program} {T : Nat} {x : TypeInfo} (h : P.types[T]? = some x) : P.info? T = some x := by
  have hlt : T < P.types.size := (Array.getElem?_eq_some_iff.1 h).1
  unfold Tables.info?
  simp [hlt]
  exact (Array.getElem?_eq_some_iff.1 h).2

def OkL (P : Program) (L0 L : Lay) : Prop := ∀ T i, L T = some i → G P L0 T i
theorem okLeaf {P : Program} {L0 : Lay} {T0 : Nat} {i : TI} (h : G P L0 T0 i) : OkL P L0 (leaf T0 i) := by
  intro T j hj
  unfold leaf at hj
  cases hb : Nat.beq T T0 with
  | false => rw [hb] at hj; cases hj
  | true =>
    rw [hb] at hj
    cases hj
    rw [Nat.eq_of_beq_eq_true hb]
    exact h
theorem okNode {P : Program} {L0 l r : Lay} {p : Nat} (hl : OkL P L0 l) (hr : OkL P L0 r) : OkL P L0 (node p l r) := by
  intro T j hj
  unfold node at hj
  cases hb : Nat.blt T p with
  | false => rw [hb] at hj; exact hr T j hj
  | true => rw [hb] at hj; exact hl T j hj
theorem layOk_of {P : Program} {L : Lay} (h : OkL P L L) : LayOk L P where
  und T i hT := (h T i hT).und
  inf T i hT := (h T i hT).inf
  zsz T i hT := (h T i hT).zsz
  fld T i fs hT hd f hf := by
    have := (h T i hT).fld
    rw [hd] at this
    simp only [okFlds, List.all_eq_true] at this
    exact Option.isSome_iff_exists.1 (this f hf)
end Go.Xe
