/- Lemmas on the way: What the walks over trees share: how a tree lies in memory. Slices: those that are read, those that a function owns; append and make. Maps by the list of their pairs. How the elements of slices lie in memory. Slices: an element is written, a slice is made, the end of one is cleared. Slices: a field of an element is read, is written. The stable sort of remainders: insertion. Apportioning, as plain data. The stable sort of few remainders. Products and quotients of small numbers. A loop behind which nothing but a few temporaries is known: the terms stay small. -/
import Derived.Laws.AppendOwn
import Derived.Laws.MakeOwn
import Derived.Sort.Walk0
import Derived.Test.YtebbgoklldmkiaaGreatQ2
import Derived.Test.YtebbgoklldmkiaaGreatQ3
namespace Go.Xe
open Go Go.Proofs
theorem mixed : Tryz.prog.follows .mixedOrders = true := by kernel_rfl

theorem w64 {x : Int} (h1 : -9223372036854775808 ≤ x) (h2 : x < 9223372036854775808) : IntKind.i64.wrap x = x := by
  unfold IntKind.wrap IntKind.bits IntKind.signed
  simp only [Bool.true_and, ge_iff_le, decide_eq_true_eq]
  have e1 : (2 : Int) ^ 64 = 18446744073709551616 := by decide
  have e2 : (2 : Int) ^ (64 - 1) = 9223372036854775808 := by decide
  rw [e1, e2]
  split <;> omega

theorem size_w {a b : Nat} (h : a + b < 1000000) : IntKind.i64.wrap (IntKind.i64.wrap ((a : Int) + b) + 1) = ((a + b + 1 : Nat) : Int) := by
  rw [w64 (x := (a : Int) + b) (by omega) (by omega), w64 (by omega) (by omega)]
  omega

def Bd (M : List Nat) (h : Hp) : Prop := ∀ m, m ∈ M → m < h.size
theorem Bd.chg {M M' : List Nat} {h h' : Hp} (x : Bd M h) (y : Chg M' h h') : Bd M h' := fun m hm => Nat.lt_of_lt_of_le (x m hm) y.size
theorem Bd.fresh {M : List Nat} {h h' : Hp} (x : Bd M h) {b : Nat} {o : Obj} (y : New h h' b o) : b ∉ M := fun hm => by
  have := x b hm
  have := y.le
  omega

def TreeAt {K V : Type} (nt : Nat) (ek : K → List Value) (el : V → List Value) (M : List Nat) (h : Hp) : Tr K V → Option Addr → Prop
  | .leaf, p => p = none
  | .node l k v r, p => ∃ b pl pr, p = some ⟨b, 0, none⟩ ∧ b ∉ M ∧ h[b]? = some (.cells (ek k ++ el v ++ [Value.pointer pl, Value.pointer pr, Value.int .i64 ((Tr.node l k v r).size)]).toArray nt (0, 0)) ∧
      TreeAt nt ek el M h l pl ∧ TreeAt nt ek el M h r pr

section
variable {K V : Type} {nt : Nat} {ek : K → List Value} {el : V → List Value} {M M' : List Nat} {h h' : Hp}
theorem TreeAt.chg (x : Chg M' h h') (hm : ∀ m, m ∈ M' → m ∈ M) : ∀ {t : Tr K V} {p : Option Addr}, TreeAt nt ek el M h t p → TreeAt nt ek el M h' t p
  | .leaf, _, y => y
  | .node _ _ _ _, _, y => by
    obtain ⟨b, pl, pr, h1, h2, h3, h4, h5⟩ := y
    exact ⟨b, pl, pr, h1, h2, x.of h3 (fun hh => h2 (hm b hh)), TreeAt.chg x hm h4, TreeAt.chg x hm h5⟩
theorem TreeAt.ext (x : Chg [] h h') {t : Tr K V} {p : Option Addr} (y : TreeAt nt ek el M h t p) : TreeAt nt ek el M h' t p := y.chg x (by simp)
theorem TreeAt.sub (hm : ∀ m, m ∈ M' → m ∈ M) : ∀ {t : Tr K V} {p : Option Addr}, TreeAt nt ek el M h t p → TreeAt nt ek el M' h t p
  | .leaf, _, y => y
  | .node _ _ _ _, _, y => by
    obtain ⟨b, pl, pr, h1, h2, h3, h4, h5⟩ := y
    exact ⟨b, pl, pr, h1, fun hh => h2 (hm b hh), h3, TreeAt.sub hm h4, TreeAt.sub hm h5⟩
/-- a new block joins those that may be written -/
theorem TreeAt.push {m : Nat} (hm : h.size ≤ m) : ∀ {t : Tr K V} {p : Option Addr}, TreeAt nt ek el M h t p → TreeAt nt ek el (m :: M) h t p
  | .leaf, _, y => y
  | .node _ _ _ _, _, y => by
    obtain ⟨b, pl, pr, h1, h2, h3, h4, h5⟩ := y
    have := (Array.getElem?_eq_some_iff.1 h3).1
    exact ⟨b, pl, pr, h1, fun hh => by rcases List.mem_cons.1 hh with rfl | hh; exact absurd hm (by omega); exact h2 hh, h3, TreeAt.push hm h4, TreeAt.push hm h5⟩
end

theorem size_putT {K V : Type} (lt : K → K → Bool) (k : K) (v : V) : ∀ t : Tr K V, (putT lt k v t).size ≤ t.size + 1
  | .leaf => by simp [putT, Tr.size]
  | .node l a b r => by
    have h1 := size_putT lt k v l
    have h2 := size_putT lt k v r
    simp only [putT]
    split
    · rw [size_bal]; simp only [Tr.size]; omega
    · split
      · rw [size_bal]; simp only [Tr.size]; omega
      · simp only [Tr.size]; omega

theorem wp_callN {P : Program} {c : World} {ro : Option Nat} {n : Nat} {h : Hp} {Q : Exit → St → Hp → Prop} {e : Option (List Nat)} {f : Nat} {args : Array Value} {k : Value → X} {R : Value → Hp → Prop} (hc : Call c P f args h R)
    (hk : ∀ v h', R v h' → Chg [] h h' ∧ (k v).wp c P ro n h' Q) : (X.call e f args k).wp c P ro n h Q := hc.mono fun v h' hv => ⟨Kp.of _ (hk v h' hv).1, (hk v h' hv).2⟩

/-! keys and values -/
structure ClipR where
  no : Int
  name : ByteArray
  owner : ByteArray
structure TotR where
  inn : Int
  air : Int
  live : Int
  cored : Int
  wasted : Int
  sent : Int
def ekI (k : Int) : List Value := [.int .i64 k]
def ekS (k : ByteArray) : List Value := [.string k]
def elInt (v : Int) : List Value := [.int .i64 v]
def elPtr (b : Nat) : List Value := [.pointer (some ⟨b, 0, none⟩)]
def elClip (v : ClipR) : List Value := [.int .i64 v.no, .string v.name, .string v.owner]
def elTot (v : TotR) : List Value := [.int .i64 v.inn, .int .i64 v.air, .int .i64 v.live, .int .i64 v.cored, .int .i64 v.wasted, .int .i64 v.sent]
def vClip (v : ClipR) : Value := .agg #[.int .i64 v.no, .string v.name, .string v.owner]
def vTot (v : TotR) : Value := .agg #[.int .i64 v.inn, .int .i64 v.air, .int .i64 v.live, .int .i64 v.cored, .int .i64 v.wasted, .int .i64 v.sent]
def ltI (a b : Int) : Bool := decide (a < b)
def eqI (a b : Int) : Bool := a == b
def ltS (a b : ByteArray) : Bool := Op.bytesLess a.toList b.toList
def eqS (a b : ByteArray) : Bool := a.toList == b.toList
theorem loI : LO ltI eqI := ⟨by simp [ltI], by simp [ltI]; omega, by simp [ltI]; omega, by simp [eqI]⟩
end Go.Xe
namespace Go.Xe
open Go Go.Proofs

section
variable {α : Type}
/-- l lies in memory, not in M -/
def SlAt (e sz : Nat) (enc : α → List Value) (M : List Nat) (h : Hp) (a : Option Addr) (cap : Nat) (l : List α) : Prop :=
  (a = none ∧ cap = 0 ∧ l = []) ∨ ∃ b o cs, a = some ⟨b, o, none⟩ ∧ b ∉ M ∧ h[b]? = some (.cells cs e (0, 0)) ∧ l.length ≤ cap ∧ o + cap * sz ≤ cs.size ∧ (cs.toList.drop o).take (l.length * sz) = l.flatMap enc

/-- l lies in a block of its own -/
def OwnAt (e sz : Nat) (enc : α → List Value) (h : Hp) (a : Option Addr) (cap : Nat) (l : List α) (blk : Option Nat) : Prop :=
  (a = none ∧ cap = 0 ∧ l = [] ∧ blk = none) ∨ ∃ g cs, a = some ⟨g, 0, none⟩ ∧ blk = some g ∧ h[g]? = some (.cells cs e (0, 0)) ∧ l.length ≤ cap ∧ cap ≤ maxLen ∧ cs.size = cap * sz ∧ cs.toList.take (l.length * sz) = l.flatMap enc

variable {e sz : Nat} {enc : α → List Value} {M M' : List Nat} {h h' : Hp} {a : Option Addr} {cap : Nat} {l : List α} {blk : Option Nat}

theorem SlAt.nil : SlAt e sz enc M h none 0 ([] : List α) := .inl ⟨rfl, rfl, rfl⟩
theorem SlAt.chg (x : Chg M' h h') (hm : ∀ m, m ∈ M' → m ∈ M) (y : SlAt e sz enc M h a cap l) : SlAt e sz enc M h' a cap l := by
  rcases y with y | ⟨b, o, cs, h1, h2, h3, h4⟩
  · exact .inl y
  · exact .inr ⟨b, o, cs, h1, h2, x.of h3 (fun hh => h2 (hm b hh)), h4⟩
theorem SlAt.ext (x : Chg [] h h') (y : SlAt e sz enc M h a cap l) : SlAt e sz enc M h' a cap l := y.chg x (by simp)
theorem SlAt.sub (hm : ∀ m, m ∈ M' → m ∈ M) (y : SlAt e sz enc M h a cap l) : SlAt e sz enc M' h a cap l := by
  rcases y with y | ⟨b, o, cs, h1, h2, h3⟩
  · exact .inl y
  · exact .inr ⟨b, o, cs, h1, fun hh => h2 (hm b hh), h3⟩
theorem SlAt.push {m : Nat} (hm : h.size ≤ m) (y : SlAt e sz enc M h a cap l) : SlAt e sz enc (m :: M) h a cap l := by
  rcases y with y | ⟨b, o, cs, h1, h2, h3, h4⟩
  · exact .inl y
  · have := (Array.getElem?_eq_some_iff.1 h3).1
    exact .inr ⟨b, o, cs, h1, fun hh => by rcases List.mem_cons.1 hh with rfl | hh; exact absurd hm (by omega); exact h2 hh, h3, h4⟩
theorem SlAt.wr {b : Nat} {o : Obj} (x : Upd h h' b o) {cs : Array Value} {T : Nat} {fz : Nat × Nat} (hb : h[b]? = some (.cells cs T fz)) (hT : T ≠ e) (y : SlAt e sz enc M h a cap l) : SlAt e sz enc M h' a cap l := by
  rcases y with y | ⟨b', o, cs', h1, h2, h3, h4⟩
  · exact .inl y
  · refine .inr ⟨b', o, cs', h1, h2, x.of h3 (fun e => ?_), h4⟩
    subst e
    rw [hb] at h3
    injection h3 with h3
    injection h3 with _ h3 _
    exact hT h3
theorem OwnAt.nil : OwnAt e sz enc h none 0 ([] : List α) none := .inl ⟨rfl, rfl, rfl, rfl⟩
theorem OwnAt.chg (x : Chg M h h') (hm : ∀ g, blk = some g → g ∉ M) (y : OwnAt e sz enc h a cap l blk) : OwnAt e sz enc h' a cap l blk := by
  rcases y with y | ⟨g, cs, h1, h2, h3, h4⟩
  · exact .inl y
  · exact .inr ⟨g, cs, h1, h2, x.of h3 (hm g h2), h4⟩
theorem OwnAt.ext (x : Chg [] h h') (y : OwnAt e sz enc h a cap l blk) : OwnAt e sz enc h' a cap l blk := y.chg x (by simp)
theorem OwnAt.wr {b : Nat} {o : Obj} (x : Upd h h' b o) (hT : ∀ g, blk = some g → g ≠ b) (y : OwnAt e sz enc h a cap l blk) : OwnAt e sz enc h' a cap l blk := by
  rcases y with y | ⟨g, cs, h1, h2, h3, h4⟩
  · exact .inl y
  · exact .inr ⟨g, cs, h1, h2, x.of h3 (hT g h2), h4⟩
theorem OwnAt.sl (y : OwnAt e sz enc h a cap l blk) (hm : ∀ g, blk = some g → g ∉ M) : SlAt e sz enc M h a cap l := by
  rcases y with ⟨h1, h2, h3, _⟩ | ⟨g, cs, h1, h2, h3, h4, h5, h6, h7⟩
  · exact .inl ⟨h1, h2, h3⟩
  · exact .inr ⟨g, 0, cs, h1, hm g h2, h3, h4, by omega, by simpa using h7⟩
theorem OwnAt.lt (y : OwnAt e sz enc h a cap l blk) : ∀ g, blk = some g → g < h.size := by
  rcases y with ⟨_, _, _, rfl⟩ | ⟨g, cs, h1, rfl, h3, _⟩
  · intro g hg; cases hg
  · intro g' hg
    cases hg
    exact (Array.getElem?_eq_some_iff.1 h3).1

/-- the value that the cells of an element make -/
def valOf (i : TI) (cs : List Value) : Value :=
  match i.desc with
  | .struct _ | .array _ _ => .agg cs.toArray
  | _ => cs.headD undef

theorem flat_len (henc : ∀ x : α, (enc x).length = sz) : ∀ l : List α, (l.flatMap enc).length = l.length * sz
  | [] => by simp
  | x :: l => by
    simp only [List.flatMap_cons, List.length_append, henc, flat_len henc l, List.length_cons, Nat.add_mul]
    omega
theorem flat_at (henc : ∀ x : α, (enc x).length = sz) : ∀ (l : List α) (j : Nat) (x : α), l[j]? = some x → ((l.flatMap enc).drop (j * sz)).take sz = enc x
  | [], _, _, h => by simp at h
  | y :: l, 0, x, h => by
    simp only [List.getElem?_cons_zero, Option.some.injEq] at h
    subst h
    simp only [List.flatMap_cons, Nat.zero_mul, List.drop_zero]
    rw [← henc y, List.take_left]
  | y :: l, j + 1, x, h => by
    simp only [List.getElem?_cons_succ] at h
    have := flat_at henc l j x h
    simp only [List.flatMap_cons]
    rw [show (j + 1) * sz = sz + j * sz from by rw [Nat.add_mul]; omega, ← List.drop_drop]
    rw [show ((enc y ++ l.flatMap enc).drop sz) = l.flatMap enc from by rw [← henc y, List.drop_left]]
    exact this

theorem rd_of {cs : List Value} {o : Nat} {i : TI} {L : List Value} (hd : (cs.drop o).take i.size = L) (hl : L.length = i.size) (hs : 0 < i.size) (h1 : (match i.desc with | .struct _ | .array _ _ => true | _ => Nat.beq i.size 1) = true) : rd cs o i = some (valOf i L) := by
  have hlen : o + i.size ≤ cs.length := by
    have := congrArg List.length hd
    simp only [List.length_take, List.length_drop] at this
    omega
  unfold rd valOf
  revert h1
  split
  · rename_i hx; intro _; simp only [hx]; rw [Nat.ble_eq_true_of_le hlen, cond_true, hd]
  · rename_i hx; intro _; simp only [hx]; rw [Nat.ble_eq_true_of_le hlen, cond_true, hd]
  · rename_i hn1 hn2
    intro h1
    have h1' : i.size = 1 := Nat.eq_of_beq_eq_true h1
    rw [h1'] at hd
    have : o < cs.length := by omega
    rw [List.drop_eq_getElem_cons this] at hd
    simp only [List.take_succ_cons, List.take_zero] at hd
    rw [← hd]
    simp [this]

/-- how elements are laid: i is their type's -/
structure EncOk (i : TI) (enc : α → List Value) : Prop where
  len : ∀ x, (enc x).length = i.size
  pos : 0 < i.size
  one : (match i.desc with | .struct _ | .array _ _ => true | _ => Nat.beq i.size 1) = true
  cell : ∀ x u, u ∈ enc x → u.oneCell' = true
  bytes : i.bytes ≤ 10000

theorem SlAt.ld {i : TI} (hi : EncOk i enc) (hs : i.size = sz) (y : SlAt e sz enc M h a cap l) {j : Nat} {x : α} (hj : l[j]? = some x) : ∃ b o, a = some ⟨b, o, none⟩ ∧ b ∉ M ∧ Ld h b (o + j * i.size) i (valOf i (enc x)) := by
  subst hs
  rcases y with ⟨_, _, rfl⟩ | ⟨b, o, cs, rfl, h2, h3, h4, h5, h6⟩
  · simp at hj
  · refine ⟨b, o, rfl, h2, cs, e, (0, 0), h3, rd_of (L := enc x) ?_ (hi.len x) hi.pos hi.one⟩
    have hjl := (List.getElem?_eq_some_iff.1 hj).1
    have hf := flat_at hi.len l j x hj
    rw [← h6, List.drop_take, List.take_take, List.drop_drop] at hf
    rw [← hf, Nat.min_eq_left]
    have : (j + 1) * i.size ≤ l.length * i.size := Nat.mul_le_mul_right _ hjl
    rw [Nat.add_mul] at this
    omega
theorem OwnAt.ld {i : TI} (hi : EncOk i enc) (hs : i.size = sz) (y : OwnAt e sz enc h a cap l blk) {j : Nat} {x : α} (hj : l[j]? = some x) : ∃ b, a = some ⟨b, 0, none⟩ ∧ blk = some b ∧ Ld h b (0 + j * i.size) i (valOf i (enc x)) := by
  rcases y with ⟨_, _, rfl, _⟩ | ⟨g, cs, rfl, rfl, h3, h4, h5, h6, h7⟩
  · simp at hj
  · obtain ⟨b, o, hb, _, hld⟩ := SlAt.ld (M := []) hi hs (.inr ⟨g, 0, cs, rfl, by simp, h3, h4, by omega, by simpa using h7⟩) hj
    injection hb with hb
    injection hb with h1 h2
    subst h1; subst h2
    exact ⟨g, rfl, rfl, hld⟩

theorem SlAt.cells (henc : ∀ x : α, (enc x).length = sz) {b o : Nat} (y : SlAt e sz enc M h (some ⟨b, o, none⟩) cap l) (w : World) (hw : w.heap = h) : ∀ j u, (l.flatMap enc)[j]? = some u → w.cell? ((⟨b, o, none⟩ : Addr).add j) = some u := by
  subst hw
  intro j u hu
  rcases y with ⟨h1, _⟩ | ⟨b', o', cs, h1, h2, h3, h4, h5, h6⟩
  · cases h1
  · cases h1
    rw [add_at]
    have hjl := (List.getElem?_eq_some_iff.1 hu).1
    rw [flat_len henc] at hjl
    rw [← h6, List.getElem?_take, if_pos hjl, List.getElem?_drop] at hu
    unfold World.cell?
    simp only [h3]
    simpa using hu
end

section
variable {L : Lay} {P : Program} {c : World} {ro : Option Nat} {n : Nat} {h : Hp} {Q : Exit → St → Hp → Prop} {α : Type}

theorem wp_append (hL : LayOk L P) {e0 : Option (List Nat)} {t ty e : Nat} {ti i : TI} (ht : L t = some ti) (htd : ti.desc = .slice e) (hi : L e = some i) {enc : α → List Value} (hen : EncOk i enc) {M : List Nat}
    {ops : Array Operand} {ρ : Operand → Value} {a a' : Option Addr} {cap m cap' : Nat} {l l' : List α} {blk : Option Nat} {tys : Array TypeId} (htys : tys = #[t, t])
    (has : ops.toList.map ρ = [.slice a l.length cap, .slice a' m cap']) (hm : m = l'.length) (ho : OwnAt e i.size enc h a cap l blk) (hx : SlAt e i.size enc M h a' cap' l') (hlen : l.length + l'.length < 1000000)
    {k : Value → X} (he0 : e0.isSome = true → blk = none ∨ cap < l.length + l'.length)
    (hk : ∀ h' a2 cap2 blk2, OwnAt e i.size enc h' a2 cap2 (l ++ l') blk2 → Chg blk.toList h h' → (blk2 = blk ∨ ∃ g, blk2 = some g ∧ h.size ≤ g) → (k (.slice a2 (l ++ l').length cap2)).wp c P ro n h' Q) :
    (X.sem e0 (Builtin.append_ tys ty (ops.map ρ)) k).wp c P ro n h Q := by
  subst hm
  subst htys
  intro w hw hc
  obtain ⟨x, hx1, hx2, hx3, hx4⟩ := hL.inf e i hi
  have hU : P.underlying t = some (.slice e) := by rw [hL.und t ti ht, htd]
  have hargs : ops.map ρ = #[.slice a l.length cap, .slice a' l'.length cap'] := by
    rw [← Array.toList_inj, Array.toList_map, has]
  rw [hargs]
  have hzs : i.zero.cells.size = i.size := hL.zsz e i hi
  have hfl := flat_len hen.len
  have hbig : (1000000 : Nat) ≤ maxLen := by decide
  rcases hx with ⟨rfl, rfl, rfl⟩ | ⟨b, o, cs, rfl, h2, h3, h4, h5, h6⟩
  · -- nothing is appended
    have hneed : l.length ≤ cap := by
      rcases ho with ⟨rfl, rfl, rfl, rfl⟩ | ⟨g, cs, rfl, rfl, g3, g4, g5⟩
      · simp
      · exact g4
    have hrun : (Builtin.append_ #[t, t] ty #[.slice a l.length cap, .slice none ([] : List α).length 0]).run P w = .ok (.slice a (l ++ []).length cap) w := by
      simp only [List.append_nil, List.length_nil]
      cases a with
      | none => simp [Builtin.append_, run_underlying hU, sizeOf, typeInfo, hx1, Builtin.lenOf, Builtin.firstCells, hneed]
      | some a => simp [Builtin.append_, run_underlying hU, sizeOf, typeInfo, hx1, Builtin.lenOf, Builtin.firstCells, hneed, storeCells]
    refine ⟨_, _, hrun, hc, Kp.of _ ?_, ?_⟩
    · rw [hw]; exact Chg.refl _ _
    · rw [hw]
      refine hk h a cap blk (by simpa using ho) (Chg.refl _ _) (.inl rfl)
  · have hcells := SlAt.cells (M := M) (e := e) (cap := cap') hen.len (.inr ⟨b, o, cs, rfl, h2, h3, h4, h5, h6⟩) w hw
    have hone : ∀ u ∈ l'.flatMap enc, u.oneCell' = true := by
      intro u hu
      obtain ⟨y, _, hy⟩ := List.mem_flatMap.1 hu
      exact hen.cell y u hy
    have hl' : (l'.flatMap enc).length = l'.length * x.size := by rw [hx3]; exact hfl l'
    have grown : ∀ (old : Nat), old < l.length + l'.length → ∀ xs : List Value, xs = l.flatMap enc →
        OwnAt e i.size enc (w.drew.alloc (.cells (xs.toArray ++ (l'.flatMap enc).toArray ++ Builtin.zeroCells i.zero.cells (grownCap w (l.length + l'.length) old e - (l.length + l'.length))) e)).heap (some ⟨w.heap.size, 0, none⟩)
          (grownCap w (l.length + l'.length) old e) (l ++ l') (some w.heap.size) := by
      intro old ho xs hxs
      subst hxs
      have hge := grownCap_ge w (l.length + l'.length) old e
      have hcm : grownCap w (l.length + l'.length) old e ≤ maxLen := grownCap_le_maxLen w _ old e (by omega)
      refine .inr ⟨_, _, rfl, rfl, World.alloc_heap_new w.drew _, by simpa using hge, hcm, ?_, ?_⟩
      · simp only [Array.size_append, List.size_toArray, size_zeroCells, hzs, hfl, ← Nat.add_mul]
        congr 1
        omega
      · simp only [Array.toList_append, List.append_assoc, List.flatMap_append]
        rw [← List.append_assoc, ← List.flatMap_append, ← hfl (l ++ l')]
        exact List.take_left
    have hchg : ∀ (ob : Obj) (M : List Nat), Chg M w.heap (w.drew.alloc ob).heap := fun ob M => New.chg (o := ob) ⟨rfl, rfl⟩ M
    rcases ho with ⟨rfl, rfl, rfl, rfl⟩ | ⟨g, cur, rfl, rfl, g3, g4, g5, g6, g7⟩
    · by_cases hz : l' = []
      · subst hz
        refine ⟨.slice none 0 0, w, ?_, hc, Kp.of _ ?_, ?_⟩
        · simp [Builtin.append_, run_underlying hU, sizeOf, typeInfo, hx1, Builtin.lenOf, Builtin.firstCells, loadCells, loadCellsFrom]
        · rw [hw]; exact Chg.refl _ _
        · rw [hw]
          exact hk h none 0 none (.inl ⟨rfl, rfl, rfl, rfl⟩) (Chg.refl _ _) (.inl rfl)
      · have hpos : 0 < l'.length := by cases l' with | nil => exact absurd rfl hz | cons _ _ => simp
        simp only [List.length_nil, Nat.zero_add] at hlen
        have hmul : l'.length * x.bytes ≤ 1000000 * 10000 := Nat.mul_le_mul (by omega) (by rw [hx4]; exact hen.bytes)
        have hr := run_append_nil (P := P) w t ty e x i.zero hU hx1 hx2 ⟨b, o, none⟩ l'.length cap' (l'.flatMap enc) hl' hcells hpos (by omega) (by omega)
        refine ⟨_, _, hr, ⟨hc.os, hc.tape, hc.output⟩, Kp.of _ (by rw [← hw]; exact hchg _ _), ?_⟩
        have hg := grown 0 (by simpa using hpos) [] rfl
        simp only [List.length_nil, Nat.zero_add, Array.empty_append] at hg
        exact hk _ _ _ _ hg (by rw [← hw]; exact hchg _ _) (.inr ⟨_, rfl, by rw [hw]; exact Nat.le_refl _⟩)
    · subst hw
      by_cases hroom : l.length + l'.length ≤ cap
      · have hfit : l.length * x.size + (l'.flatMap enc).length ≤ cur.size := by
          rw [hl', g6, hx3, ← Nat.add_mul]; exact Nat.mul_le_mul_right _ hroom
        have hr := run_append_room (P := P) w t ty e x hU hx1 g l.length cap cur g3 ⟨b, o, none⟩ l'.length cap' (l'.flatMap enc) hl' hcells hone hroom hfit
        have hu : Upd w.heap (w.setRow g (cur.toList.take (l.length * x.size) ++ l'.flatMap enc ++ cur.toList.drop (l.length * x.size + (l'.flatMap enc).length)).toArray).heap g
            (.cells (cur.toList.take (l.length * x.size) ++ l'.flatMap enc ++ cur.toList.drop (l.length * x.size + (l'.flatMap enc).length)).toArray e) :=
          ⟨by simp, setRow_heap w g cur _ e _ g3, fun k hk => setRow_other w g k _ (fun e => hk e)⟩
        refine ⟨_, _, hr, hc.setRow _ _, ?_, ?_⟩
        · cases e0 with
          | none => trivial
          | some D =>
            rcases he0 rfl with h0 | h0
            · cases h0
            · omega
        · rw [← List.length_append]
          refine hk _ _ _ (some g) (.inr ⟨g, _, rfl, rfl, hu.here, by simpa using hroom, g5, ?_, ?_⟩) (hu.chg (by simp)) (.inl rfl)
          · have h9 := hfl l'
            rw [hx3]
            simp only [List.size_toArray, List.length_append, List.length_take, List.length_drop, Array.length_toList]
            rw [hx3] at hfit
            omega
          · simp only [hx3, g7]
            rw [List.flatMap_append, ← hfl (l ++ l'), List.flatMap_append]
            exact List.take_left
      · have hown : SlAt e i.size enc [] w.heap (some ⟨g, 0, none⟩) cap l := .inr ⟨g, 0, cur, rfl, by simp, g3, g4, by omega, by simpa using g7⟩
        have hcells0 := SlAt.cells (M := []) hen.len hown w rfl
        have hmul : (l.length + l'.length) * x.bytes ≤ 1000000 * 10000 := Nat.mul_le_mul (by omega) (by rw [hx4]; exact hen.bytes)
        have hr := run_append_grow (P := P) w t ty e x i.zero hU hx1 hx2 ⟨g, 0, none⟩ l.length cap (l.flatMap enc) (by rw [hx3]; exact hfl l) hcells0 ⟨b, o, none⟩ l'.length cap' (l'.flatMap enc) hl' hcells (by omega) (by omega) (growslice_fits (by omega) (by omega))
        refine ⟨_, _, hr, ⟨hc.os, hc.tape, hc.output⟩, Kp.of _ (hchg _ _), ?_⟩
        rw [← List.length_append]
        exact hk _ _ _ _ (by simpa using grown cap (by omega) _ rfl) (hchg _ _) (.inr ⟨_, rfl, Nat.le_refl _⟩)
end
end Go.Xe
namespace Go.Xe
open Go Go.Proofs

def MapAt {K V : Type} (nt : Nat) (ek : K → List Value) (el : V → List Value) (lt : K → K → Bool) (M : List Nat) (h : Hp) (p : Option Addr) (xs : List (K × V)) : Prop :=
  ∃ t : Tr K V, TreeAt nt ek el M h t p ∧ t.toL = xs ∧ SortedK lt xs

section
variable {K V : Type} {nt : Nat} {ek : K → List Value} {el : V → List Value} {lt : K → K → Bool} {M M' : List Nat} {h h' : Hp} {p : Option Addr} {xs : List (K × V)}
theorem MapAt.chg (x : Chg M' h h') (hm : ∀ m, m ∈ M' → m ∈ M) (y : MapAt nt ek el lt M h p xs) : MapAt nt ek el lt M h' p xs := by
  obtain ⟨t, h1, h2, h3⟩ := y
  exact ⟨t, h1.chg x hm, h2, h3⟩
theorem MapAt.ext (x : Chg [] h h') (y : MapAt nt ek el lt M h p xs) : MapAt nt ek el lt M h' p xs := y.chg x (by simp)
theorem MapAt.sub (hm : ∀ m, m ∈ M' → m ∈ M) (y : MapAt nt ek el lt M h p xs) : MapAt nt ek el lt M' h p xs := by
  obtain ⟨t, h1, h2, h3⟩ := y
  exact ⟨t, h1.sub hm, h2, h3⟩
theorem MapAt.push {m : Nat} (hm : h.size ≤ m) (y : MapAt nt ek el lt M h p xs) : MapAt nt ek el lt (m :: M) h p xs := by
  obtain ⟨t, h1, h2, h3⟩ := y
  exact ⟨t, h1.push hm, h2, h3⟩
theorem MapAt.nil : MapAt nt ek el lt M h none ([] : List (K × V)) := ⟨.leaf, rfl, rfl, List.Pairwise.nil⟩
theorem MapAt.sorted (y : MapAt nt ek el lt M h p xs) : SortedK lt xs := y.choose_spec.2.2
end

def vPtr (b : Nat) : Value := .pointer (some ⟨b, 0, none⟩)
def zClip : Value := .agg #[.int .i64 0, .string ⟨#[]⟩, .string ⟨#[]⟩]
def zTot : Value := .agg #[.int .i64 0, .int .i64 0, .int .i64 0, .int .i64 0, .int .i64 0, .int .i64 0]
/-- a cell of another type is written -/
theorem TreeAt.wr {K V : Type} {nt : Nat} {ek : K → List Value} {el : V → List Value} {M : List Nat} {h h' : Hp} {b : Nat} {o : Obj} (x : Upd h h' b o) {cs : Array Value} {T : Nat} {fz : Nat × Nat} (hb : h[b]? = some (.cells cs T fz)) (hT : T ≠ nt) :
    ∀ {t : Tr K V} {p : Option Addr}, TreeAt nt ek el M h t p → TreeAt nt ek el M h' t p
  | .leaf, _, y => y
  | .node _ _ _ _, _, y => by
    obtain ⟨j, pl, pr, h1, h2, h3, h4, h5⟩ := y
    refine ⟨j, pl, pr, h1, h2, x.of h3 (fun e => ?_), TreeAt.wr x hb hT h4, TreeAt.wr x hb hT h5⟩
    subst e
    rw [hb] at h3
    injection h3 with h3
    injection h3 with _ h3 _
    exact hT h3

theorem length_insL {K V : Type} {lt : K → K → Bool} {k : K} {v : V} : ∀ xs : List (K × V), (insL lt k v xs).length ≤ xs.length + 1
  | [] => by simp [insL]
  | (a, b) :: xs => by
    have := length_insL (lt := lt) (k := k) (v := v) xs
    simp only [insL]
    split
    · simp
    · split <;> simp <;> omega

/-! the order of strings -/
theorem u8_lt {a b : UInt8} : a < b ↔ a.toNat < b.toNat := UInt8.lt_iff_toNat_lt
theorem u8_eq {a b : UInt8} : a = b ↔ a.toNat = b.toNat := UInt8.toNat_inj.symm
theorem lex_irr : ∀ a : List UInt8, Op.bytesLess a a = false
  | [] => rfl
  | x :: a => by simp [Op.bytesLess, lex_irr a]
theorem lex_tr : ∀ a b c : List UInt8, Op.bytesLess a b = true → Op.bytesLess b c = true → Op.bytesLess a c = true
  | [], [], _, h, _ => by simp [Op.bytesLess] at h
  | [], _ :: _, [], _, h => by simp [Op.bytesLess] at h
  | [], _ :: _, _ :: _, _, _ => by simp [Op.bytesLess]
  | _ :: _, [], _, h, _ => by simp [Op.bytesLess] at h
  | _ :: _, _ :: _, [], _, h => by simp [Op.bytesLess] at h
  | x :: a, y :: b, z :: c, h1, h2 => by
    simp only [Op.bytesLess, Bool.or_eq_true, Bool.and_eq_true, decide_eq_true_eq, beq_iff_eq, u8_lt] at h1 h2 ⊢
    rcases h1 with h1 | ⟨rfl, h1⟩
    · rcases h2 with h2 | ⟨rfl, h2⟩
      · exact .inl (by omega)
      · exact .inl h1
    · rcases h2 with h2 | ⟨rfl, h2⟩
      · exact .inl h2
      · exact .inr ⟨rfl, lex_tr a b c h1 h2⟩
theorem lex_tri : ∀ a b : List UInt8, Op.bytesLess a b = false → Op.bytesLess b a = false → a = b
  | [], [], _, _ => rfl
  | [], _ :: _, h, _ => by simp [Op.bytesLess] at h
  | _ :: _, [], _, h => by simp [Op.bytesLess] at h
  | x :: a, y :: b, h1, h2 => by
    simp only [Op.bytesLess, Bool.or_eq_false_iff, Bool.and_eq_false_iff, decide_eq_false_iff_not, beq_eq_false_iff_ne, u8_lt] at h1 h2
    have hxy : x = y := u8_eq.2 (by omega)
    subst hxy
    rcases h1.2 with h1 | h1
    · exact absurd rfl h1
    · rcases h2.2 with h2 | h2
      · exact absurd rfl h2
      · rw [lex_tri a b h1 h2]
theorem ba_inj {a b : ByteArray} (h : a.toList = b.toList) : a = b := by
  rw [Lib.toList_data, Lib.toList_data] at h
  cases a; cases b
  simpa [← Array.toList_inj] using h
theorem loS : LO ltS eqS := ⟨fun a => lex_irr _, fun a b c => lex_tr _ _ _, fun a b h1 h2 => ba_inj (lex_tri _ _ h1 h2), fun a b => ⟨fun h => ba_inj (by simpa [eqS] using h), fun h => by simp [eqS, h]⟩⟩
end Go.Xe
namespace Go.Xe
open Go Go.Proofs

structure PartR where
  clip : Int
  grams : Int
structure RestR where
  at_ : Int
  left : Int
def elPart (p : PartR) : List Value := [.int .i64 p.clip, .int .i64 p.grams]
def elRest (p : RestR) : List Value := [.int .i64 p.at_, .int .i64 p.left]

theorem enI : EncOk ti3 elInt := ⟨fun _ => rfl, by decide, rfl, fun x u hu => by rcases List.mem_singleton.1 hu with rfl; rfl, by decide⟩
theorem enPart : EncOk ti129 elPart := ⟨fun _ => rfl, by decide, rfl, fun x u hu => by
  rcases List.mem_cons.1 hu with rfl | hu
  · rfl
  · rcases List.mem_singleton.1 hu with rfl; rfl, by decide⟩
theorem enRest : EncOk ti310 elRest := ⟨fun _ => rfl, by decide, rfl, fun x u hu => by
  rcases List.mem_cons.1 hu with rfl | hu
  · rfl
  · rcases List.mem_singleton.1 hu with rfl; rfl, by decide⟩

abbrev IntsAt (M : List Nat) (h : Hp) (a : Option Addr) (cap : Nat) (l : List Int) := SlAt 3 1 elInt M h a cap l
abbrev PartsAt (M : List Nat) (h : Hp) (a : Option Addr) (cap : Nat) (l : List PartR) := SlAt 129 2 elPart M h a cap l
abbrev IntsOwn (h : Hp) (a : Option Addr) (cap : Nat) (l : List Int) (blk : Option Nat) := OwnAt 3 1 elInt h a cap l blk
abbrev PartsOwn (h : Hp) (a : Option Addr) (cap : Nat) (l : List PartR) (blk : Option Nat) := OwnAt 129 2 elPart h a cap l blk
abbrev RestsOwn (h : Hp) (a : Option Addr) (cap : Nat) (l : List RestR) (blk : Option Nat) := OwnAt 310 2 elRest h a cap l blk
def Fresh (h : Hp) (blk : Option Nat) : Prop := ∀ g, blk = some g → h.size ≤ g
theorem Chg.fresh {M M' : List Nat} {h h1 h2 : Hp} (x : Chg M h h1) (y : Chg M' h1 h2) (hm : ∀ m, m ∈ M' → m ∈ M ∨ h.size ≤ m) : Chg M h h2 :=
  ⟨Nat.le_trans x.size y.size, fun k hk hM => (y.same k (Nat.lt_of_lt_of_le hk x.size) (fun hh => (hm k hh).elim hM (fun h9 => by omega))).trans (x.same k hk hM)⟩
theorem Chg.freshO {M : List Nat} {blk : Option Nat} {h h1 h2 : Hp} (x : Chg M h h1) (y : Chg blk.toList h1 h2) (hm : Fresh h blk) : Chg M h h2 :=
  x.fresh y fun m hm' => .inr (hm m (by simpa using hm'))
theorem Fresh.step {h h1 : Hp} {blk blk2 : Option Nat} (x : Fresh h blk) (hle : h.size ≤ h1.size) (y : blk2 = blk ∨ ∃ g, blk2 = some g ∧ h1.size ≤ g) : Fresh h blk2 := by
  rcases y with rfl | ⟨g, rfl, hg⟩
  · exact x
  · intro g' hg'
    cases hg'
    omega
theorem Fresh.none {h : Hp} : Fresh h none := fun _ h => by cases h
theorem Fresh.new {h h' : Hp} {b : Nat} {o : Obj} (x : New h h' b o) : Fresh h (some b) := fun g hg => by cases hg; exact x.le
theorem Fresh.back {h h1 : Hp} {blk : Option Nat} (x : Fresh h1 blk) (hle : h.size ≤ h1.size) : Fresh h blk := fun g hg => Nat.le_trans hle (x g hg)
theorem Fresh.notin {h : Hp} {blk : Option Nat} {M : List Nat} (x : Fresh h blk) (hM : Bd M h) : ∀ g, blk = some g → g ∉ M := fun g hg hm => by
  have := x g hg
  have := hM g hm
  omega
end Go.Xe
namespace Go.Xe
open Go Go.Proofs

section
variable {α : Type} {e : Nat} {enc : α → List Value} {i : TI}
theorem take_wr {β : Type} (cs e : List β) (A S B : Nat) (he : e.length = S) (h1 : A + S ≤ B) (h2 : B ≤ cs.length) :
    (cs.take A ++ e ++ cs.drop (A + S)).take B = (cs.take B).take A ++ e ++ (cs.take B).drop (A + S) := by
  rw [List.take_append, List.take_of_length_le (by rw [List.length_append, List.length_take, he]; omega), List.take_take, Nat.min_eq_left (by omega), List.length_append, List.length_take, he, Nat.min_eq_left (by omega), ← List.drop_take]
theorem flat_set (henc : ∀ x : α, (enc x).length = i.size) : ∀ (l : List α) (j : Nat) (x : α), j < l.length → (l.set j x).flatMap enc = (l.flatMap enc).take (j * i.size) ++ enc x ++ (l.flatMap enc).drop (j * i.size + i.size)
  | [], _, _, h => by simp at h
  | y :: l, 0, x, _ => by
    simp only [List.set_cons_zero, List.flatMap_cons, Nat.zero_mul, List.take_zero, List.nil_append, Nat.zero_add]
    rw [← henc y, List.drop_left]
  | y :: l, j + 1, x, h => by
    have ih := flat_set henc l j x (by simpa using h)
    simp only [List.set_cons_succ, List.flatMap_cons]
    rw [ih, show (j + 1) * i.size = (enc y).length + j * i.size from by rw [henc, Nat.add_mul]; omega]
    rw [List.take_length_add_append, Nat.add_assoc, List.drop_length_add_append]
    simp [List.append_assoc]
end

section
variable {L : Lay} {P : Program} {c : World} {ro : Option Nat} {n : Nat} {h : Hp} {Q : Exit → St → Hp → Prop} {α : Type}
theorem wp_storeEl {e b : Nat} {i : TI} {enc : α → List Value} (hi : EncOk i enc) {cap : Nat} {l : List α} {blk : Option Nat} (ho : OwnAt e i.size enc h (some ⟨b, 0, none⟩) cap l blk) {j : Nat} (hj : j < l.length) (x : α) {v : Value}
    (hv : v.cells.toList = enc x) {k : X} (hk : ∀ h', OwnAt e i.size enc h' (some ⟨b, 0, none⟩) cap (l.set j x) blk → Chg [b] h h' → blk = some b → h'.size = h.size → k.wp c P ro n h' Q) : (X.store b (0 + j * i.size) i v k).wp c P ro n h Q := by
  rcases ho with ⟨h1, _⟩ | ⟨g, cs, h1, rfl, h3, h4, h5, h6, h7⟩
  · cases h1
  · have hg : b = g := by injection h1 with h1; injection h1
    subst hg
    have hvs : v.cells.size = i.size := by rw [← Array.length_toList, hv, hi.len]
    have hfit : (j + 1) * i.size ≤ cap * i.size := Nat.mul_le_mul_right _ (by omega)
    have hfit2 : (j + 1) * i.size ≤ l.length * i.size := Nat.mul_le_mul_right _ (by omega)
    rw [Nat.add_mul, Nat.one_mul] at hfit hfit2
    refine wp_store (cs := cs.toList) h3 ?_ ?_
    · simp only [okSt, Bool.and_eq_true, List.all_eq_true]
      exact ⟨⟨by rw [hvs]; exact Nat.beq_refl _, Nat.ble_eq_true_of_le (by simpa using by omega)⟩, fun u hu => hi.cell x u (by rw [← hv]; exact hu)⟩
    · intro h' hU
      refine hk h' (.inr ⟨b, _, rfl, rfl, hU.here, by simpa using h4, h5, ?_, ?_⟩) (hU.chg (by simp)) rfl hU.size
      · simp only [List.size_toArray, wrAt_length, Array.length_toList]; exact h6
      · have hl : cs.toList.length = cap * i.size := by simpa using h6
        have hlf := flat_len hi.len l
        rw [List.length_set, flat_set hi.len l j x hj, ← h7, hv]
        rw [wrAt_eq _ _ _ (by rw [hi.len]; omega), hi.len, Nat.zero_add]
        have := Nat.mul_le_mul_right i.size h4
        exact take_wr _ _ _ _ _ (hi.len x) (by omega) (by omega)

theorem wp_make (hL : LayOk L P) {e0 : Option (List Nat)} {t e : Nat} {ti i : TI} (ht : L t = some ti) (htd : ti.desc = .slice e) (hi : L e = some i) {enc : α → List Value} (z : α) (hz : i.zero.cells.toList = enc z) (henc : ∀ x, (enc x).length = i.size) (hby : i.bytes ≤ 10000)
    {m : Nat} (hm : m < 1000000) {k : Value → X}
    (hk : ∀ b h' cs, New h h' b (.cells cs e) → OwnAt e i.size enc h' (some ⟨b, 0, none⟩) m (List.replicate m z) (some b) → (k (.slice (some ⟨b, 0, none⟩) m m)).wp c P ro n h' Q) :
    (X.sem e0 (Instr.makeSlice t (.int .i64 m) (.int .i64 m)) k).wp c P ro n h Q := by
  intro w hw hc
  obtain ⟨x, hx1, hx2, hx3, hx4⟩ := hL.inf e i hi
  have hU : P.underlying t = some (.slice e) := by rw [hL.und t ti ht, htd]
  have hzs : i.zero.cells.size = i.size := hL.zsz e i hi
  have hb : x.bytes * m ≤ 10000 * 1000000 := Nat.mul_le_mul (by omega) (by omega)
  have hb' : ((x.bytes * m : Nat) : Int) ≤ 281474976710656 := by omega
  have hr := run_make (P := P) w t e x i.zero hU hx1 hx2 .i64 .i64 (m : Int) (m : Int) (by omega) (by omega) (by rw [← Int.natCast_mul]; exact hb') (by omega)
  refine ⟨_, _, hr, ⟨hc.os, hc.tape, hc.output⟩, Kp.of _ (by rw [← hw]; exact New.chg (o := .cells _ e) ⟨rfl, rfl⟩ []), ?_⟩
  simp only [Int.toNat_natCast]
  subst hw
  refine hk _ _ _ ⟨rfl, rfl⟩ (.inr ⟨_, _, rfl, rfl, World.alloc_heap_new w _, by simp, Nat.le_trans (Nat.le_of_lt hm) (by decide : (1000000 : Nat) ≤ maxLen), ?_, ?_⟩)
  · simp [madeCells, hx3]
  · have : (madeCells i.zero.cells (m * x.size)).toList = (List.replicate m z).flatMap enc := by
      apply List.ext_getElem?
      intro j
      have hfl : ((List.replicate m z).flatMap enc).length = m * i.size := by rw [flat_len henc]; simp
      by_cases hj : j < m * i.size
      · have h2 : ∀ m, ((List.replicate m z).flatMap enc) = repl m (enc z) := by
          intro m
          induction m with
          | zero => rfl
          | succ m ih => simp only [List.replicate_succ, List.flatMap_cons, repl, ih]
        rw [h2, repl_get m (enc z) j (by rw [henc]; exact hj), henc, hx3]
        have hpos : 0 < i.size := by rcases Nat.eq_zero_or_pos i.size with h0 | h0; (rw [h0] at hj; omega); exact h0
        have hlt : j % i.size < i.zero.cells.size := by rw [hzs]; exact Nat.mod_lt _ hpos
        rw [← hz]
        simp only [madeCells, Array.getElem?_toList, Array.getElem?_map, Array.getElem?_range, hj, if_true, Option.map_some, hzs]
        rw [getElem!_pos i.zero.cells _ hlt, Array.getElem?_eq_getElem hlt]
      · rw [List.getElem?_eq_none (l := (madeCells i.zero.cells (m * x.size)).toList) (by rw [Array.length_toList, size_madeCells, hx3]; omega), List.getElem?_eq_none (by rw [hfl]; omega)]
    rw [this]
    rw [List.take_of_length_le (by rw [flat_len henc]; simp)]

theorem wp_clear (hL : LayOk L P) {e0 : Option (List Nat)} {t ty e : Nat} {ti i : TI} (ht : L t = some ti) (htd : ti.desc = .slice e) (hi : L e = some i) {enc : α → List Value} (hen : EncOk i enc) (hz1 : i.zero.cells.toList.all (·.oneCell') = true)
    {ops : Array Operand} {ρ : Operand → Value} {a : Option Addr} {cap : Nat} {l : List α} {blk : Option Nat} {tys : Array TypeId} (htys : tys = #[t]) {j : Nat} (hj : j ≤ l.length)
    (has : ops.toList.map ρ = [.slice (if cap = j then a else a.map (·.add (j * i.size))) (l.length - j) (cap - j)]) (ho : OwnAt e i.size enc h a cap l blk)
    {k : Value → X} (he0 : e0 = none)
    (hk : ∀ h', OwnAt e i.size enc h' a cap (l.take j) blk → Chg blk.toList h h' → (k (.tuple #[])).wp c P ro n h' Q) :
    (X.sem e0 (Builtin.clear_ tys ty (ops.map ρ)) k).wp c P ro n h Q := by
  subst htys
  subst he0
  intro w hw hc
  subst hw
  obtain ⟨x, hx1, hx2, hx3, hx4⟩ := hL.inf e i hi
  have hU : P.underlying t = some (.slice e) := by rw [hL.und t ti ht, htd]
  have hzs : i.zero.cells.size = i.size := hL.zsz e i hi
  have hargs : ops.map ρ = #[.slice (if cap = j then a else a.map (·.add (j * i.size))) (l.length - j) (cap - j)] := by
    rw [← Array.toList_inj, Array.toList_map, has]
  rw [hargs]
  rcases ho with ⟨rfl, rfl, rfl, rfl⟩ | ⟨g, cs, rfl, rfl, h3, h4, h5, h6, h7⟩
  · have h0 : j = 0 := by simpa using hj
    subst h0
    refine ⟨.tuple #[], w, ?_, hc, trivial, hk _ (.inl ⟨rfl, rfl, rfl, rfl⟩) (Chg.refl _ _)⟩
    simp [Builtin.clear_, run_underlying hU]
  · by_cases hjl : j = l.length
    · subst hjl
      refine ⟨.tuple #[], w, ?_, hc, trivial, hk _ (.inr ⟨g, cs, rfl, rfl, h3, by simpa using h4, h5, h6, by simpa using h7⟩) (Chg.refl _ _)⟩
      simp only [Nat.sub_self]
      split
      · simp [Builtin.clear_, run_underlying hU]
      · simp [Builtin.clear_, run_underlying hU, Addr.add_lit]
    · have hne : ¬ cap = j := by omega
      simp only [if_neg hne, Option.map_some, Addr.add_lit, Nat.zero_add]
      have hmul : (j + (l.length - j)) * i.size ≤ cap * i.size := Nat.mul_le_mul_right _ (by omega)
      rw [Nat.add_mul] at hmul
      have hzl : (Builtin.zeroCells i.zero.cells (l.length - j)).toList.length = (l.length - j) * i.size := by simp [size_zeroCells, hzs]
      have hone : ∀ u ∈ (Builtin.zeroCells i.zero.cells (l.length - j)).toList, u.oneCell' = true := by
        intro u hu
        simp only [Builtin.zeroCells, Array.toList_map, List.mem_map] at hu
        obtain ⟨q, hq, rfl⟩ := hu
        have hq : q < (l.length - j) * i.zero.cells.size := by simpa using hq
        have hpos : 0 < i.zero.cells.size := by rcases Nat.eq_zero_or_pos i.zero.cells.size with h0 | h0; (rw [h0] at hq; omega); exact h0
        have hlt : q % i.zero.cells.size < i.zero.cells.size := Nat.mod_lt _ hpos
        rw [List.all_eq_true] at hz1
        exact hz1 _ (by rw [getElem!_pos i.zero.cells _ hlt]; simp)
      have hst := run_storeCells_at P g (j * i.size) e (Builtin.zeroCells i.zero.cells (l.length - j)).toList 0 cs w h3 (by rw [hzl]; omega) hone
      simp only [Nat.add_zero] at hst
      have hn0 : ∃ q, l.length - j = q + 1 := ⟨l.length - j - 1, by omega⟩
      obtain ⟨q, hq⟩ := hn0
      have hrun : (Builtin.clear_ #[t] ty #[.slice (some ⟨g, j * i.size, none⟩) (l.length - j) (cap - j)]).run P w = .ok (.tuple #[]) (w.setRow g
        (List.take (j * i.size) cs.toList ++ (Builtin.zeroCells i.zero.cells (l.length - j)).toList ++ List.drop (j * i.size + (Builtin.zeroCells i.zero.cells (l.length - j)).toList.length) cs.toList).toArray) := by
        rw [hq] at hst ⊢
        simp [Builtin.clear_, run_underlying hU, run_zero hL hi, hst]
      refine ⟨.tuple #[], _, hrun, hc.setRow _ _, trivial, hk _ (.inr ⟨g, _, rfl, rfl, setRow_heap w g cs _ e _ h3, by simp; omega, h5, ?_, ?_⟩) ⟨by simp, fun b _ hb => setRow_other w g b _ (fun e => hb (by simp [e]))⟩⟩
      · simp only [List.size_toArray, List.length_append, List.length_take, List.length_drop, Array.length_toList, hzl]
        omega
      · simp only [List.length_take]
        rw [Nat.min_eq_left hj]
        rw [List.append_assoc, List.take_append_of_le_length (by rw [List.length_take, Array.length_toList]; omega), List.take_take, Nat.min_self]
        have := congrArg (List.take (j * i.size)) h7
        have hjm : j * i.size ≤ l.length * i.size := Nat.mul_le_mul_right _ hj
        rw [List.take_take, Nat.min_eq_left hjm] at this
        rw [this]
        conv => lhs; rw [← List.take_append_drop j l, List.flatMap_append]
        rw [List.take_append_of_le_length (by rw [flat_len hen.len, List.length_take, Nat.min_eq_left hj]; exact Nat.le_refl _)]
        exact List.take_of_length_le (by rw [flat_len hen.len, List.length_take, Nat.min_eq_left hj]; exact Nat.le_refl _)
end
end Go.Xe
namespace Go.Xe
open Go Go.Proofs

def scalar (t : TI) : Bool := match t.desc with | .struct _ | .array _ _ => false | _ => Nat.beq t.size 1

theorem rd_scalar {t : TI} (ht : scalar t = true) {cs : List Value} {o : Nat} {v : Value} (h : cs[o]? = some v) : rd cs o t = some v := by
  unfold scalar at ht
  unfold rd
  split at ht
  · cases ht
  · cases ht
  · rename_i h1 h2
    split
    · rename_i hx; exact absurd hx (h1 _)
    · rename_i hx; exact absurd hx (h2 _ _)
    · exact h

section
variable {α : Type} {e : Nat} {enc : α → List Value} {i : TI} {M : List Nat} {h : Hp} {a : Option Addr} {cap : Nat} {l : List α} {blk : Option Nat}
theorem SlAt.ptr (y : SlAt e i.size enc M h a cap l) {j : Nat} (hj : j < l.length) : ∃ b o, a = some ⟨b, o, none⟩ := by
  rcases y with ⟨_, _, rfl⟩ | ⟨b, o, cs, rfl, _⟩
  · simp at hj
  · exact ⟨b, o, rfl⟩
theorem OwnAt.ptr (y : OwnAt e i.size enc h a cap l blk) {j : Nat} (hj : j < l.length) : ∃ b, a = some ⟨b, 0, none⟩ ∧ blk = some b := by
  rcases y with ⟨_, _, rfl, _⟩ | ⟨b, cs, rfl, h2, _⟩
  · simp at hj
  · exact ⟨b, rfl, h2⟩
theorem SlAt.ld1 (hi : EncOk i enc) {b o : Nat} (y : SlAt e i.size enc M h (some ⟨b, o, none⟩) cap l) {j : Nat} {x : α} (hj : l[j]? = some x) : Ld h b (o + j * i.size) i (valOf i (enc x)) := by
  obtain ⟨b', o', hb, _, hld⟩ := y.ld hi rfl hj
  injection hb with hb
  injection hb with h1 h2
  subst h1; subst h2
  exact hld
theorem SlAt.ldF (hi : EncOk i enc) {tf : TI} (htf : scalar tf = true) {b o : Nat} (y : SlAt e i.size enc M h (some ⟨b, o, none⟩) cap l) {j : Nat} {x : α} (hj : l[j]? = some x) {k : Nat} {v : Value} (hk : (enc x)[k]? = some v) : Ld h b (o + j * i.size + k) tf v := by
  rcases y with ⟨h1, _⟩ | ⟨b', o', cs, h1, h2, h3, h4, h5, h6⟩
  · cases h1
  · injection h1 with h1
    injection h1 with hbb hoo
    subst hbb; subst hoo
    refine ⟨cs, e, (0, 0), h3, rd_scalar htf ?_⟩
    have hjl := (List.getElem?_eq_some_iff.1 hj).1
    have hkl := (List.getElem?_eq_some_iff.1 hk).1
    rw [hi.len] at hkl
    have hf := flat_at hi.len l j x hj
    have h9 : (j + 1) * i.size ≤ l.length * i.size := Nat.mul_le_mul_right _ hjl
    rw [Nat.add_mul] at h9
    rw [← hf, ← h6, List.getElem?_take, if_pos hkl, List.getElem?_drop, List.getElem?_take, if_pos (by omega), List.getElem?_drop] at hk
    rw [Nat.add_assoc]
    exact hk
theorem OwnAt.ld1 (hi : EncOk i enc) {b : Nat} (y : OwnAt e i.size enc h (some ⟨b, 0, none⟩) cap l blk) {j : Nat} {x : α} (hj : l[j]? = some x) : Ld h b (0 + j * i.size) i (valOf i (enc x)) :=
  (y.sl (M := []) (by simp)).ld1 hi hj
theorem OwnAt.ldF (hi : EncOk i enc) {tf : TI} (htf : scalar tf = true) {b : Nat} (y : OwnAt e i.size enc h (some ⟨b, 0, none⟩) cap l blk) {j : Nat} {x : α} (hj : l[j]? = some x) {k : Nat} {v : Value} (hk : (enc x)[k]? = some v) : Ld h b (0 + j * i.size + k) tf v :=
  (y.sl (M := []) (by simp)).ldF hi htf hj hk
end

section
variable {L : Lay} {P : Program} {c : World} {ro : Option Nat} {n : Nat} {h : Hp} {Q : Exit → St → Hp → Prop} {α : Type}
theorem wp_storeFld {e b : Nat} {i tf : TI} {enc : α → List Value} (hi : EncOk i enc) (htf : tf.size = 1) {cap : Nat} {l : List α} {blk : Option Nat} (ho : OwnAt e i.size enc h (some ⟨b, 0, none⟩) cap l blk) {j : Nat} {x0 : α} (hj : l[j]? = some x0) (x : α) {k : Nat} {v : Value}
    (hv : v.cells = #[v]) (hx : enc x = (enc x0).set k v) (hkl : k < i.size) {kx : X} (hk : ∀ h', OwnAt e i.size enc h' (some ⟨b, 0, none⟩) cap (l.set j x) blk → Chg [b] h h' → blk = some b → h'.size = h.size → kx.wp c P ro n h' Q) : (X.store b (0 + j * i.size + k) tf v kx).wp c P ro n h Q := by
  rcases ho with ⟨h1, _⟩ | ⟨g, cs, h1, rfl, h3, h4, h5, h6, h7⟩
  · cases h1
  · have hg : b = g := by injection h1 with h1; injection h1
    subst hg
    have hjl := (List.getElem?_eq_some_iff.1 hj).1
    have hfit : (j + 1) * i.size ≤ cap * i.size := Nat.mul_le_mul_right _ (by omega)
    have hfit2 : (j + 1) * i.size ≤ l.length * i.size := Nat.mul_le_mul_right _ (by omega)
    have hfit3 : l.length * i.size ≤ cap * i.size := Nat.mul_le_mul_right _ h4
    rw [Nat.add_mul, Nat.one_mul] at hfit hfit2
    have hone : v.oneCell' = true := by
      refine hi.cell x v ?_
      rw [hx]
      have : k < (enc x0).length := by rw [hi.len]; exact hkl
      exact List.mem_iff_getElem.2 ⟨k, by simpa using this, by simp⟩
    refine wp_store (cs := cs.toList) h3 ?_ ?_
    · simp only [okSt, Bool.and_eq_true, List.all_eq_true, hv, htf]
      exact ⟨⟨rfl, Nat.ble_eq_true_of_le (by simpa using by omega)⟩, fun u hu => by rcases List.mem_singleton.1 hu with rfl; exact hone⟩
    · intro h' hU
      rw [hv] at hU
      refine hk h' (.inr ⟨b, _, rfl, rfl, hU.here, by simpa using h4, h5, ?_, ?_⟩) (hU.chg (by simp)) rfl hU.size
      · simp only [List.size_toArray, wrAt_length, Array.length_toList]; exact h6
      · have hl : cs.toList.length = cap * i.size := by simpa using h6
        have hlf := flat_len hi.len l
        have hfx := flat_at hi.len l j x0 hj
        rw [List.length_set, flat_set hi.len l j x hjl, hx, ← hfx, ← h7]
        rw [wrAt_eq _ _ _ (by simp; omega), Nat.zero_add]
        apply List.ext_getElem?
        intro q
        simp only [List.getElem?_take, List.getElem?_append, List.length_append, List.length_take, List.length_drop, List.getElem?_drop, List.getElem?_set, List.length_set, List.length_cons, List.length_nil, hl]
        have e1 : min (j * i.size + k) (cap * i.size) = j * i.size + k := Nat.min_eq_left (by omega)
        have e2 : min (j * i.size) (l.length * i.size) = j * i.size := Nat.min_eq_left (by omega)
        have e3 : min (l.length * i.size) (cap * i.size) = l.length * i.size := Nat.min_eq_left (by omega)
        have e5 : min i.size (l.length * i.size - j * i.size) = i.size := Nat.min_eq_left (by omega)
        simp only [e1, e2, e3, e5]
        generalize j * i.size = A at *
        generalize l.length * i.size = B at *
        generalize i.size = S at *
        by_cases h1 : q < A
        · have f1 : q < B := by omega
          have f2 : q < A + k + (0 + 1) := by omega
          have f3 : q < A + k := by omega
          have f4 : q < A + S := by omega
          simp only [f1, f2, f3, f4, h1, if_true]
        · by_cases h2 : q < A + k
          · have f1 : q < B := by omega
            have f2 : q < A + k + (0 + 1) := by omega
            have f4 : q < A + S := by omega
            have f5 : ¬ k = q - A := by omega
            have f6 : q - A < S := by omega
            have f7 : A + (q - A) = q := by omega
            simp only [f1, f2, h2, f4, f5, f6, f7, h1, if_true, if_false]
          · by_cases h3 : q = A + k
            · subst h3
              have f1 : A + k < B := by omega
              have f2 : A + k < A + k + (0 + 1) := by omega
              have f4 : A + k < A + S := by omega
              have f5 : k = A + k - A := by omega
              have f6 : A + k - (A + k) = 0 := by omega
              simp only [f1, f2, f4, h1, h2, if_true, if_false, f6, ← f5, hkl]
              rfl
            · by_cases h4 : q < A + S
              · have f1 : q < B := by omega
                have f2 : ¬ q < A + k + (0 + 1) := by omega
                have f5 : ¬ k = q - A := by omega
                have f6 : q - A < S := by omega
                have f7 : A + (q - A) = q := by omega
                have f8 : A + k + (0 + 1) + (q - (A + k + (0 + 1))) = q := by omega
                simp only [f1, f2, h4, f5, f6, f7, f8, h1, if_true, if_false]
              · have f2 : ¬ q < A + k + (0 + 1) := by omega
                have f7 : A + S + (q - (A + S)) = q := by omega
                have f8 : A + k + (0 + 1) + (q - (A + k + (0 + 1))) = q := by omega
                simp only [f2, h4, f7, f8, if_false]
theorem Ld.at {b o s j : Nat} {z : Int} {i : TI} {v : Value} (hz : z = (j : Int)) (x : Ld h b (o + j * s) i v) : Ld h b (o + z.toNat * s) i v := by subst hz; exact x
theorem wp_storeElZ {e b : Nat} {i : TI} {enc : α → List Value} (hi : EncOk i enc) {cap : Nat} {l : List α} {blk : Option Nat} (ho : OwnAt e i.size enc h (some ⟨b, 0, none⟩) cap l blk) {z : Int} (j : Nat) (hz : z = (j : Int)) (hj : j < l.length) (x : α) {v : Value}
    (hv : v.cells.toList = enc x) {k : X} (hk : ∀ h', OwnAt e i.size enc h' (some ⟨b, 0, none⟩) cap (l.set j x) blk → Chg [b] h h' → blk = some b → h'.size = h.size → k.wp c P ro n h' Q) : (X.store b (0 + z.toNat * i.size) i v k).wp c P ro n h Q := by
  subst hz
  exact wp_storeEl hi ho hj x hv hk
end
end Go.Xe
namespace Go.Xe
open Go Go.Proofs
set_option maxRecDepth 20000
variable {c : World}
def vRest (p : RestR) : Value := .agg #[.int .i64 p.at_, .int .i64 p.left]
def cmpZ (x y : Int) : Int := if x < y then -1 else if x > y then 1 else 0
theorem nan_c (x : Int) (h : Hp) : Call c Tryz.prog 225 #[.int .i64 x] h fun v h' => v = .bool false ∧ h' = h := by
  refine call_of layOk 6 Tryz.func225 Tryz.ntmps225 rfl rfl rfl rfl ?_
  exact wp_done ⟨rfl, congrArg Value.bool (by simp), rfl⟩
theorem compare_c (x y : Int) (h : Hp) : Call c Tryz.prog 238 #[.int .i64 x, .int .i64 y] h fun v h' => v = .int .i64 (cmpZ x y) ∧ h' = h := by
  refine call_of layOk 20 Tryz.func238 Tryz.ntmps238 rfl rfl rfl rfl ?_
  refine wp_call (nan_c x h) ?_
  rintro _ _ ⟨rfl, rfl⟩
  refine wp_call (nan_c y _) ?_
  rintro _ _ ⟨rfl, rfl⟩
  refine wp_brF rfl (wp_brF rfl ?_)
  refine wp_br (fun h1 => ?_) (fun h1 => ?_)
  · exact wp_done ⟨rfl, congrArg (Value.int .i64) (by simp [cmpZ, of_decide_eq_true h1]), rfl⟩
  · refine wp_br (fun h2 => ?_) (fun h2 => ?_)
    · exact wp_done ⟨rfl, congrArg (Value.int .i64) (by simp [cmpZ, of_decide_eq_false h1, of_decide_eq_true h2]), rfl⟩
    · exact wp_done ⟨rfl, congrArg (Value.int .i64) (by simp [cmpZ, of_decide_eq_false h1, of_decide_eq_false h2]), rfl⟩
theorem byLeft_c (a b : RestR) (h : Hp) : Call c Tryz.prog 237 #[vRest a, vRest b] h fun v h' => v = .int .i64 (cmpZ b.left a.left) ∧ Chg [] h h' := by
  refine call_of layOk 10 Tryz.func237 Tryz.ntmps237 rfl rfl rfl rfl ?_
  refine wp_new ?_
  intro b1 h1 hN1
  refine wp_new ?_
  intro b2 h2 hN2
  refine wp_load (ld_of hN2.here rfl) ?_
  refine wp_load (ld_of (hN2.of hN1.here) rfl) ?_
  refine wp_call (compare_c _ _ _) ?_
  rintro _ _ ⟨rfl, rfl⟩
  exact wp_done ⟨rfl, rfl, (hN1.chg []).trans (hN2.chg [])⟩

/-- one before the other: more is left, or as much and an earlier place -/
def RB (a b : RestR) : Prop := b.left < a.left ∨ (a.left = b.left ∧ a.at_ < b.at_)
theorem RB.tr {a b c : RestR} (x : RB a b) (y : RB b c) : RB a c := by unfold RB at *; omega

theorem swap_list {α : Type} (B E : List α) (x y : α) : ((B ++ y :: x :: E).set (B.length + 1) y).set B.length x = B ++ x :: y :: E := by simp
theorem get_b0 {α : Type} (B E : List α) (y : α) : (B ++ y :: E)[B.length]? = some y := by simp
theorem get_b1 {α : Type} (B E : List α) (x y : α) : (B ++ y :: x :: E)[B.length + 1]? = some x := by
  rw [List.getElem?_append_right (by omega), Nat.add_sub_cancel_left]
  rfl

theorem insertion_c (a : Option Addr) (cap : Nat) (blk : Option Nat) (A P D : List RestR) (h : Hp) (ho : RestsOwn h a cap (A ++ P ++ D) blk) (hz : (A ++ P ++ D).length < 900000) (hne : 0 < P.length)
    (hat : P.Pairwise fun x y => x.at_ < y.at_) :
    Call c Tryz.prog 284 #[.slice a (A ++ P ++ D).length cap, .int .i64 A.length, .int .i64 (A.length + P.length : Nat), .func (.func 237) #[] #[]] h fun _ h' => ∃ P', P'.Perm P ∧ P'.Pairwise RB ∧ RestsOwn h' a cap (A ++ P' ++ D) blk ∧ Chg blk.toList h h' := by
  simp only [List.length_append] at hz
  obtain ⟨b, rfl, rfl⟩ := ho.ptr (i := ti310) (j := 0) (by simp; omega)
  refine call_of layOk 53 Tryz.func284 Tryz.ntmps284 rfl rfl rfl rfl ?_
  refine wp_loopG layOk [8, 9] 10 52 rfl (fun m vals h' => ∃ (i : Nat) (u : Value) (S : List RestR), vals = [.int .i64 (A.length + i : Nat), u] ∧ i + m = P.length ∧ 0 < i ∧ S.Perm (P.take i) ∧ S.Pairwise RB ∧
    RestsOwn h' (some ⟨b, 0, none⟩) cap (A ++ (S ++ P.drop i) ++ D) (some b) ∧ Chg [b] h h') (P.length - 1) ⟨1, undef, P.take 1, ?_, by omega, by omega, List.Perm.refl _, ?_, ?_, Chg.refl _ _⟩ ?_
  · exact congrArg (fun z => [Value.int .i64 z, undef]) (by rw [w64 (by omega) (by omega)]; omega)
  · cases P with
    | nil => simp at hne
    | cons p P => simp
  · rw [List.take_append_drop]; exact ho
  rintro m g vals h' - ⟨i, u, S, rfl, hm, hi0, hperm, hS, ho', hc⟩
  have hSl : S.length = i := by rw [hperm.length_eq, List.length_take]; omega
  refine wp_br (fun h1 => ?_) (fun h1 => ?_)
  · have hi : i < P.length := by
      have := of_decide_eq_true h1
      omega
    have hdrop : P.drop i = P[i] :: P.drop (i + 1) := List.drop_eq_getElem_cons hi
    have hatS : ∀ s, s ∈ S → s.at_ < P[i].at_ := by
      intro s hs
      have hs' : s ∈ P.take i := hperm.mem_iff.1 hs
      obtain ⟨k, hk, rfl⟩ := List.mem_iff_getElem.1 hs'
      rw [List.length_take] at hk
      rw [List.getElem_take]
      exact List.pairwise_iff_getElem.1 hat k i (by omega) hi (by omega)
    -- the inner loop
    refine wp_loopG layOk [9] 18 52 rfl (fun q vals h' => ∃ (S1 S2 : List RestR), vals = [.int .i64 (A.length + S1.length : Nat)] ∧ q = S1.length ∧ S1 ++ S2 = S ∧ (∀ y, y ∈ S2 → y.left < P[i].left) ∧
      RestsOwn h' (some ⟨b, 0, none⟩) cap (A ++ (S1 ++ P[i] :: S2 ++ P.drop (i + 1)) ++ D) (some b) ∧ Chg [b] h h') i ⟨S, [], ?_, hSl.symm, by simp, by simp, ?_, hc⟩ ?_
    · rw [hSl]; rfl
    · rw [hdrop] at ho'; simpa using ho'
    rintro q g2 vals h2 - ⟨S1, S2, rfl, rfl, h12, hlt, ho2, hc2⟩
    have hfin : ∀ (hS1 : ∀ y, y ∈ S1 → RB y P[i]), (S1 ++ P[i] :: S2).Perm (P.take (i + 1)) ∧ (S1 ++ P[i] :: S2).Pairwise RB := by
      intro hS1
      refine ⟨?_, ?_⟩
      · have htk : P.take (i + 1) = P.take i ++ [P[i]] := by rw [List.take_add_one, List.getElem?_eq_getElem hi]; rfl
        rw [htk]
        refine List.perm_middle.trans ?_
        rw [h12]
        exact (List.Perm.cons _ hperm).trans (List.perm_append_singleton P[i] (P.take i)).symm
      · rw [← h12] at hS
        rw [List.pairwise_append] at hS ⊢
        refine ⟨hS.1, List.pairwise_cons.2 ⟨fun y hy => .inl (hlt y hy), hS.2.1⟩, fun x hx y hy => ?_⟩
        rcases List.mem_cons.1 hy with rfl | hy
        · exact hS1 x hx
        · exact hS.2.2 x hx y hy
    refine wp_ord layOk mixed [(0, 16)] [] (by kernel_rfl) ?_
    refine wp_br (fun h3 => ?_) (fun h3 => ?_)
    · have hpos : 0 < S1.length := by
        have := of_decide_eq_true h3
        omega
      obtain ⟨S1', y, rfl⟩ : ∃ S1' y, S1 = S1' ++ [y] := ⟨S1.dropLast, S1.getLast (by intro h0; simp [h0] at hpos), (List.dropLast_concat_getLast _).symm⟩
      have hLst : A ++ (S1' ++ [y] ++ P[i] :: S2 ++ P.drop (i + 1)) ++ D = (A ++ S1') ++ y :: P[i] :: (S2 ++ P.drop (i + 1) ++ D) := by simp
      rw [hLst] at ho2
      have hlen : (A ++ S1').length + 1 < (A ++ P ++ D).length := by
        have := congrArg List.length h12
        simp only [List.length_append, List.length_singleton] at this ⊢
        omega
      have hlen' : (A ++ S1').length + 1 < 900000 := by
        simp only [List.length_append] at hlen ⊢
        omega
      have hb1 : (A.length + (S1' ++ [y]).length) = (A ++ S1').length + 1 := by simp; omega
      have hw : IntKind.i64.wrap (((A.length + (S1' ++ [y]).length : Nat) : Int) - 1) = (((A ++ S1').length : Nat) : Int) := by
        rw [w64 (by omega) (by omega)]
        omega
      refine wp_brT rfl (wp_brT rfl (wp_brT rfl ?_))
      refine wp_chk ⟨by omega, by omega⟩ ?_
      refine wp_brT rfl ?_
      refine wp_load (Ld.at (j := (A ++ S1').length + 1) (by omega) (ho2.ld1 (i := ti310) enRest (get_b1 _ _ _ _))) ?_
      refine wp_brT rfl (wp_brT rfl (wp_brT rfl (wp_brT rfl ?_)))
      refine wp_chk ⟨by rw [hw]; omega, by rw [hw]; omega⟩ ?_
      refine wp_brT rfl ?_
      refine wp_load (Ld.at hw (ho2.ld1 (i := ti310) enRest (get_b0 _ _ _))) ?_
      refine wp_brT rfl ?_
      refine wp_call (byLeft_c P[i] y h2) ?_
      rintro _ h4 ⟨rfl, hc4⟩
      refine wp_brT rfl ?_
      refine wp_brT rfl ?_
      have ho4 := ho2.chg hc4 (by simp)
      refine wp_br (fun h5 => ?_) (fun h5 => ?_)
      · have hyl : y.left < P[i].left := by
          have := of_decide_eq_true h5
          unfold cmpZ at this
          split at this
          · assumption
          · split at this <;> omega
        refine wp_ord layOk mixed [(0, 17)] [] (by kernel_rfl) ?_
        refine wp_chk ⟨by rw [hw]; omega, by rw [hw]; omega⟩ ?_
        refine wp_load (Ld.at hw (ho4.ld1 (i := ti310) enRest (get_b0 _ _ _))) ?_
        refine wp_chk ⟨by omega, by omega⟩ ?_
        refine wp_load (Ld.at (j := (A ++ S1').length + 1) (by omega) (ho4.ld1 (i := ti310) enRest (get_b1 _ _ _ _))) ?_
        refine wp_chk ⟨by omega, by omega⟩ ?_
        refine wp_storeElZ (i := ti310) enRest ho4 ((A ++ S1').length + 1) (by omega) (List.getElem?_eq_some_iff.1 (get_b1 _ _ _ _)).1 y rfl ?_
        intro h6 ho6 hc6 _ _
        refine wp_chk ⟨by rw [hw]; omega, by rw [hw]; omega⟩ ?_
        refine wp_storeElZ (i := ti310) enRest ho6 (A ++ S1').length hw (by rw [List.length_set]; exact (List.getElem?_eq_some_iff.1 (get_b0 _ _ _)).1) P[i] rfl ?_
        intro h7 ho7 hc7 _ _
        rw [swap_list, show A ++ S1' ++ P[i] :: y :: (S2 ++ P.drop (i + 1) ++ D) = A ++ (S1' ++ P[i] :: (y :: S2) ++ P.drop (i + 1)) ++ D from by simp] at ho7
        refine wp_done ⟨S1'.length, by simp, S1', y :: S2, ?_, rfl, by simpa using h12, ?_, ?_, hc2.trans ((hc4.mono (by simp)).trans (hc6.trans hc7))⟩
        · refine congrArg (fun z => [Value.int .i64 z]) (hw.trans ?_)
          simp
        · intro z hz
          rcases List.mem_cons.1 hz with rfl | hz
          · exact hyl
          · exact hlt z hz
        · exact ho7
      · have hyl : ¬ y.left < P[i].left := by
          intro hlt
          have := of_decide_eq_false h5
          simp [cmpZ, hlt] at this
        have hf := hfin (by
          intro z hz
          have hyR : RB y P[i] := by
            have h9 := hatS y (by rw [← h12]; simp)
            unfold RB
            omega
          rcases List.mem_append.1 hz with hz | hz
          · rw [← h12, List.append_assoc, List.pairwise_append] at hS
            exact (hS.2.2 z hz y (by simp)).tr hyR
          · rcases List.mem_singleton.1 hz with rfl
            exact hyR)
        have hwi : IntKind.i64.wrap (((A.length + i : Nat) : Int) + 1) = ((A.length + (i + 1) : Nat) : Int) := by
          rw [w64 (by omega) (by omega)]
          omega
        have hlist : A ++ S1' ++ y :: P[i] :: (S2 ++ P.drop (i + 1) ++ D) = A ++ (S1' ++ [y] ++ P[i] :: S2 ++ P.drop (i + 1)) ++ D := by simp
        rw [hlist] at ho4
        have hcc := hc2.trans (hc4.mono (M' := [b]) (by simp))
        refine wp_done ?_
        show X.wp _ _ _ _ _ _ _
        exact wp_done ⟨m - 1, by omega, i + 1, .int .i64 (A.length + (S1' ++ [y]).length : Nat), S1' ++ [y] ++ P[i] :: S2, congrArg (fun z => [Value.int .i64 z, Value.int .i64 (A.length + (S1' ++ [y]).length : Nat)]) hwi, by omega, by omega, hf.1, hf.2, ho4, hcc⟩
    · have h10 : S1 = [] := by
        have := of_decide_eq_false h3
        exact List.length_eq_zero_iff.1 (by omega)
      subst h10
      have hf := hfin (by simp)
      have hwi : IntKind.i64.wrap (((A.length + i : Nat) : Int) + 1) = ((A.length + (i + 1) : Nat) : Int) := by
        rw [w64 (by omega) (by omega)]
        omega
      repeat refine wp_brF rfl ?_
      refine wp_done ?_
      show X.wp _ _ _ _ _ _ _
      exact wp_done ⟨m - 1, by omega, i + 1, .int .i64 (A.length + ([] : List RestR).length : Nat), [] ++ P[i] :: S2, congrArg (fun z => [Value.int .i64 z, Value.int .i64 (A.length + ([] : List RestR).length : Nat)]) hwi, by omega, by omega, hf.1, hf.2, ho2, hc2⟩
  · have hi : i = P.length := by
      have := of_decide_eq_false h1
      omega
    subst hi
    rw [List.take_length] at hperm
    rw [List.drop_length, List.append_nil] at ho'
    refine wp_done ?_
    show X.wp _ _ _ _ _ _ _
    exact wp_done ⟨rfl, S, hperm, hS, ho', hc⟩
end Go.Xe
namespace Go.Xe
open Go
def sumI : List Int → Int
  | [] => 0
  | x :: l => x + sumI l
def rests (t s : Int) : Nat → List Int → List RestR
  | _, [] => []
  | i, w :: l => ⟨i, t * w % s⟩ :: rests t s (i + 1) l
instance (a b : RestR) : Decidable (RB a b) := by unfold RB; infer_instance
def insR (x : RestR) : List RestR → List RestR
  | [] => [x]
  | y :: l => if RB x y then x :: y :: l else y :: insR x l
def sortR : List RestR → List RestR
  | [] => []
  | x :: l => insR x (sortR l)
def bump (q : List Int) (x : RestR) : List Int := q.set x.at_.toNat (q.getD x.at_.toNat 0 + 1)
def apportion (t : Int) (l : List Int) : List Int :=
  let q := l.map fun w => t * w / sumI l
  ((sortR (rests t (sumI l) 0 l)).take (t - sumI q).toNat).foldl bump q

theorem insR_perm (x : RestR) : ∀ l, (insR x l).Perm (x :: l)
  | [] => .refl _
  | y :: l => by
    simp only [insR]
    split
    · exact .refl _
    · exact ((insR_perm x l).cons y).trans (.swap x y l)
theorem sortR_perm : ∀ l, (sortR l).Perm l
  | [] => .refl _
  | x :: l => (insR_perm x _).trans ((sortR_perm l).cons x)
theorem insR_sorted (x : RestR) : ∀ l : List RestR, l.Pairwise RB → (∀ y, y ∈ l → y.at_ ≠ x.at_) → (insR x l).Pairwise RB
  | [], _, _ => by simp [insR]
  | y :: l, h, ha => by
    rw [List.pairwise_cons] at h
    simp only [insR]
    split
    · rename_i hxy
      refine List.pairwise_cons.2 ⟨fun z hz => ?_, List.pairwise_cons.2 h⟩
      rcases List.mem_cons.1 hz with rfl | hz
      · exact hxy
      · exact hxy.tr (h.1 z hz)
    · rename_i hxy
      refine List.pairwise_cons.2 ⟨fun z hz => ?_, insR_sorted x l h.2 fun z hz => ha z (List.mem_cons_of_mem _ hz)⟩
      rcases List.mem_cons.1 ((insR_perm x l).mem_iff.1 hz) with rfl | hz
      · have := ha y (List.mem_cons_self ..)
        unfold RB at *
        omega
      · exact h.1 z hz
theorem sortR_sorted : ∀ l : List RestR, (l.Pairwise fun x y => x.at_ ≠ y.at_) → (sortR l).Pairwise RB
  | [], _ => List.Pairwise.nil
  | x :: l, h => by
    rw [List.pairwise_cons] at h
    exact insR_sorted x _ (sortR_sorted l h.2) fun y hy => (h.1 y ((sortR_perm l).mem_iff.1 hy)).symm
theorem sorted_uniq : ∀ ys zs : List RestR, ys.Perm zs → ys.Pairwise RB → zs.Pairwise RB → ys = zs
  | [], zs, h, _, _ => (List.nil_perm.1 h).symm
  | y :: ys, [], h, _, _ => absurd h (by simp)
  | y :: ys, z :: zs, h, h1, h2 => by
    rw [List.pairwise_cons] at h1 h2
    rcases List.mem_cons.1 (h.mem_iff.1 (List.mem_cons_self ..)) with rfl | hy
    · rw [sorted_uniq ys zs ((List.perm_cons y).1 h) h1.2 h2.2]
    · rcases List.mem_cons.1 (h.mem_iff.2 (List.mem_cons_self ..)) with rfl | hz
      · rw [sorted_uniq ys zs ((List.perm_cons z).1 h) h1.2 h2.2]
      · have a := h1.1 z hz
        have b := h2.1 y hy
        unfold RB at a b
        omega
theorem rests_len (t s : Int) : ∀ (i : Nat) (l : List Int), (rests t s i l).length = l.length
  | _, [] => rfl
  | i, _ :: l => by simp [rests, rests_len t s (i + 1) l]
theorem rests_mem (t s : Int) : ∀ (i : Nat) (l : List Int) (x : RestR), x ∈ rests t s i l → (i : Int) ≤ x.at_ ∧ x.at_ < i + l.length
  | _, [], _, h => by cases h
  | i, w :: l, x, h => by
    rcases List.mem_cons.1 h with rfl | h
    · simp only [List.length_cons]; omega
    · have := rests_mem t s (i + 1) l x h
      simp only [List.length_cons]
      omega
theorem rests_at (t s : Int) : ∀ (i : Nat) (l : List Int), (rests t s i l).Pairwise fun x y => x.at_ < y.at_
  | _, [] => List.Pairwise.nil
  | i, w :: l => List.pairwise_cons.2 ⟨fun y hy => by have := rests_mem t s (i + 1) l y hy; simp only; omega, rests_at t s (i + 1) l⟩
theorem rests_append (t s : Int) : ∀ (i : Nat) (l : List Int) (w : Int), rests t s i (l ++ [w]) = rests t s i l ++ [⟨(i + l.length : Nat), t * w % s⟩]
  | i, [], w => rfl
  | i, x :: l, w => by
    simp only [List.cons_append, rests, rests_append t s (i + 1) l w, List.length_cons]
    rw [show i + 1 + l.length = i + (l.length + 1) from by omega]
theorem sumI_append : ∀ (l m : List Int), sumI (l ++ m) = sumI l + sumI m
  | [], m => by simp [sumI]
  | x :: l, m => by simp only [List.cons_append, sumI, sumI_append l m]; omega
theorem sumI_nonneg : ∀ l : List Int, (∀ x, x ∈ l → 0 ≤ x) → 0 ≤ sumI l
  | [], _ => Int.le_refl _
  | x :: l, h => by
    have := h x (List.mem_cons_self ..)
    have := sumI_nonneg l fun y hy => h y (List.mem_cons_of_mem _ hy)
    simp only [sumI]
    omega
theorem sumI_le : ∀ (l : List Int) (b : Int), (∀ x, x ∈ l → x ≤ b) → sumI l ≤ b * l.length
  | [], _, _ => by simp [sumI]
  | x :: l, b, h => by
    have := h x (List.mem_cons_self ..)
    have := sumI_le l b fun y hy => h y (List.mem_cons_of_mem _ hy)
    simp only [sumI, List.length_cons]
    rw [Int.natCast_add, Int.mul_add]
    omega
theorem sum_qr (t s : Int) : ∀ l : List Int, s * sumI (l.map fun w => t * w / s) + sumI (l.map fun w => t * w % s) = t * sumI l
  | [] => by simp [sumI]
  | w :: l => by
    have h := sum_qr t s l
    have h2 := Int.mul_ediv_add_emod (t * w) s
    simp only [List.map_cons, sumI, Int.mul_add]
    omega
theorem left_bd {t : Int} {l : List Int} (hs : 0 < sumI l) : 0 ≤ t - sumI (l.map fun w => t * w / sumI l) ∧ t - sumI (l.map fun w => t * w / sumI l) ≤ l.length := by
  have h := sum_qr t (sumI l) l
  have h0 : 0 ≤ sumI (l.map fun w => t * w % sumI l) := sumI_nonneg _ fun x hx => by
    obtain ⟨w, _, rfl⟩ := List.mem_map.1 hx
    exact Int.emod_nonneg _ (by omega)
  have h1 : sumI (l.map fun w => t * w % sumI l) ≤ sumI l * (l.map fun w => t * w % sumI l).length := sumI_le _ _ fun x hx => by
    obtain ⟨w, _, rfl⟩ := List.mem_map.1 hx
    exact Int.le_of_lt (Int.emod_lt_of_pos _ hs)
  rw [List.length_map] at h1
  generalize sumI l = s at *
  generalize sumI (l.map fun w => t * w / s) = q at *
  have e : s * (t - q) = sumI (l.map fun w => t * w % s) := by rw [Int.mul_sub, Int.mul_comm s t]; omega
  rw [← e] at h0 h1
  exact ⟨Int.nonneg_of_mul_nonneg_right h0 hs, Int.le_of_mul_le_mul_left h1 hs⟩
end Go.Xe
namespace Go.Xe
open Go Go.Proofs
set_option maxRecDepth 20000
variable {c : World}
theorem stable_c (a : Option Addr) (cap : Nat) (blk : Option Nat) (l : List RestR) (h : Hp) (ho : RestsOwn h a cap l blk) (h0 : 0 < l.length) (hz : l.length < 20) (hat : l.Pairwise fun x y => x.at_ < y.at_) :
    Call c Tryz.prog 262 #[.slice a l.length cap, .int .i64 l.length, .func (.func 237) #[] #[]] h fun _ h' => ∃ l', l'.Perm l ∧ l'.Pairwise RB ∧ RestsOwn h' a cap l' blk ∧ Chg blk.toList h h' := by
  refine call_of layOk 63 Tryz.func262 Tryz.ntmps262 rfl rfl rfl rfl ?_
  refine wp_loopG layOk [7, 8] 11 22 rfl (fun m vals h' => vals = [.int .i64 0, .int .i64 20] ∧ h' = h) 0 ⟨rfl, rfl⟩ ?_
  rintro m g vals h' - ⟨rfl, rfl⟩
  refine wp_brF (decide_eq_false (by omega)) ?_
  refine wp_done ?_
  show X.wp _ _ _ _ _ _ _
  have hi := insertion_c (c := c) a cap blk [] l [] h' (by simpa using ho) (by simp; omega) h0 hat
  simp only [List.nil_append, List.append_nil, List.length_nil, Nat.zero_add] at hi
  refine wp_call hi ?_
  rintro _ h2 ⟨l', hp, hs, ho2, hc2⟩
  refine wp_loopG layOk [7, 8, 6, 9] 28 62 rfl (fun m vals h' => vals = [.int .i64 0, .int .i64 20, .int .i64 20, undef] ∧ h' = h2) 0 ⟨rfl, rfl⟩ ?_
  rintro m g vals h' - ⟨rfl, rfl⟩
  refine wp_brF (decide_eq_false (by omega)) ?_
  refine wp_done ?_
  show X.wp _ _ _ _ _ _ _
  exact wp_done ⟨rfl, l', hp, hs, ho2, hc2⟩
theorem sortStable_c (a : Option Addr) (cap : Nat) (blk : Option Nat) (l : List RestR) (h : Hp) (ho : RestsOwn h a cap l blk) (h0 : 0 < l.length) (hz : l.length < 20) (hat : l.Pairwise fun x y => x.at_ < y.at_) :
    Call c Tryz.prog 236 #[.slice a l.length cap, .func (.func 237) #[] #[]] h fun _ h' => ∃ l', l'.Perm l ∧ l'.Pairwise RB ∧ RestsOwn h' a cap l' blk ∧ Chg blk.toList h h' := by
  refine call_of layOk 9 Tryz.func236 Tryz.ntmps236 rfl rfl rfl rfl ?_
  refine wp_call (stable_c a cap blk l h ho h0 hz hat) ?_
  rintro _ h2 hx
  exact wp_done ⟨rfl, hx⟩
end Go.Xe
namespace Go.Xe
open Go Go.Proofs
set_option maxRecDepth 20000
variable {c : World}
theorem wu {x : Int} (h1 : 0 ≤ x) (h2 : x < 18446744073709551616) : IntKind.u64.wrap x = x := by
  unfold IntKind.wrap IntKind.bits IntKind.signed
  simp only [Bool.false_and, Bool.false_eq_true, if_false]
  have e1 : (2 : Int) ^ 64 = 18446744073709551616 := by decide
  rw [e1]
  omega
theorem and32 {x : Int} (h1 : 0 ≤ x) (h2 : x < 4294967296) : IntKind.u64.wrap (BitVec.ofInt IntKind.u64.bits x &&& BitVec.ofInt IntKind.u64.bits 4294967295).toNat = x := by
  show IntKind.u64.wrap (BitVec.ofInt 64 x &&& BitVec.ofInt 64 4294967295).toNat = x
  obtain ⟨n, rfl⟩ := Int.eq_ofNat_of_zero_le h1
  have e : BitVec.ofInt 64 (4294967295 : Int) = BitVec.ofNat 64 (2 ^ 32 - 1) := by decide
  rw [e, BitVec.ofInt_natCast, BitVec.toNat_and, BitVec.toNat_ofNat, BitVec.toNat_ofNat, Nat.mod_eq_of_lt (show n < 2 ^ 64 by omega), Nat.mod_eq_of_lt (show 2 ^ 32 - 1 < 2 ^ 64 by decide), Nat.and_two_pow_sub_one_eq_mod, Nat.mod_eq_of_lt (by omega)]
  exact wu (by omega) (by omega)
theorem shr32 (x : Int) : x.fdiv (2 ^ min (Int.toNat 32) IntKind.u64.bits) = x / 4294967296 := by
  have e : (2 : Int) ^ min (Int.toNat 32) IntKind.u64.bits = 4294967296 := by decide
  rw [e, Int.fdiv_eq_ediv_of_nonneg _ (by decide)]
theorem mul64_c (x y : Int) (h : Hp) (hx0 : 0 ≤ x) (hx : x ≤ 1073741824) (hy0 : 0 ≤ y) (hy : y ≤ 1073741824) :
    Call c Tryz.prog 260 #[.int .u64 x, .int .u64 y] h fun v h' => v = .tuple #[.int .u64 0, .int .u64 (x * y)] ∧ h' = h := by
  have hxy0 : 0 ≤ x * y := Int.mul_nonneg hx0 hy0
  have hxy : x * y ≤ 1073741824 * 1073741824 := Int.mul_le_mul hx hy hy0 (by decide)
  refine call_of layOk 51 Tryz.func260 Tryz.ntmps260 rfl rfl rfl rfl ?_
  repeat refine wp_chk (by decide) ?_
  refine wp_done ⟨rfl, ?_, rfl⟩
  refine congr (congrArg (fun a b => Value.tuple #[.int .u64 a, .int .u64 b]) ?_) ?_
  · have a1 := and32 hx0 (by omega : x < 4294967296)
    have a2 := and32 hy0 (by omega : y < 4294967296)
    have e1 : x / 4294967296 = 0 := by omega
    have e2 : y / 4294967296 = 0 := by omega
    have w0 : IntKind.u64.wrap 0 = 0 := by decide
    have wxy : IntKind.u64.wrap (x * y) = x * y := wu hxy0 (by omega)
    have wt : IntKind.u64.wrap (x * y / 4294967296) = x * y / 4294967296 := wu (by omega) (by omega)
    have at' := and32 (x := x * y / 4294967296) (by omega) (by omega)
    have et : x * y / 4294967296 / 4294967296 = 0 := by omega
    simp only [a1, a2, shr32, e1, e2, Int.zero_mul, Int.mul_zero, Int.add_zero, Int.zero_add, w0, wxy, wt, at', et]
  · exact wu hxy0 (by omega)
theorem div64_c (x y : Int) (h : Hp) (hx0 : 0 ≤ x) (hx : x < 18446744073709551616) (hy0 : 0 < y) (hy : y < 18446744073709551616) :
    Call c Tryz.prog 261 #[.int .u64 0, .int .u64 x, .int .u64 y] h fun v h' => v = .tuple #[.int .u64 (x / y), .int .u64 (x % y)] ∧ h' = h := by
  have hd : x.tdiv y = x / y := Int.tdiv_eq_ediv_of_nonneg hx0
  have hm : x.tmod y = x % y := Int.tmod_eq_emod_of_nonneg hx0
  have hq0 : 0 ≤ x / y := Int.ediv_nonneg hx0 (by omega)
  have hq1 : x / y ≤ x := Int.ediv_le_self _ hx0
  refine call_of layOk 135 Tryz.func261 Tryz.ntmps261 rfl rfl rfl rfl ?_
  refine wp_brF (by simp; omega) ?_
  refine wp_brF (decide_eq_false (by omega)) ?_
  refine wp_brT rfl ?_
  refine wp_ord layOk mixed [(0, 7)] [] (by kernel_rfl) ?_
  refine wp_chk (by omega) ?_
  refine wp_chk (by omega) ?_
  refine wp_done ⟨rfl, ?_, rfl⟩
  refine congr (congrArg (fun a b => Value.tuple #[.int .u64 a, .int .u64 b]) ?_) hm
  rw [hd, wu hq0 (by omega)]
theorem share_c (t w s : Int) (h : Hp) (ht0 : 0 ≤ t) (ht : t ≤ 1073741824) (hw0 : 0 ≤ w) (hw : w ≤ 1073741824) (hs0 : 0 < s) (hs : s < 4611686018427387904) :
    Call c Tryz.prog 235 #[.int .i64 t, .int .i64 w, .int .i64 s] h fun v h' => v = .tuple #[.int .i64 (t * w / s), .int .i64 (t * w % s)] ∧ h' = h := by
  have h0 : 0 ≤ t * w := Int.mul_nonneg ht0 hw0
  have h1 : t * w ≤ 1073741824 * 1073741824 := Int.mul_le_mul ht hw hw0 (by decide)
  have hq0 : 0 ≤ t * w / s := Int.ediv_nonneg h0 (by omega)
  have hq1 : t * w / s ≤ t * w := Int.ediv_le_self _ h0
  have hr0 : 0 ≤ t * w % s := Int.emod_nonneg _ (by omega)
  have hr1 : t * w % s < s := Int.emod_lt_of_pos _ hs0
  have e1 : IntKind.u64.wrap t = t := wu ht0 (by omega)
  have e2 : IntKind.u64.wrap w = w := wu hw0 (by omega)
  have e3 : IntKind.u64.wrap s = s := wu (by omega) (by omega)
  have hmul := mul64_c (c := c) t w h ht0 ht hw0 hw
  have hdiv := div64_c (c := c) (t * w) s h h0 (by omega) hs0 (by omega)
  refine call_of layOk 32 Tryz.func235 Tryz.ntmps235 rfl rfl rfl rfl ?_
  rw [← e1, ← e2] at hmul
  refine wp_call hmul ?_
  rintro _ _ ⟨rfl, rfl⟩
  rw [← e3] at hdiv
  rw [e1, e2]
  refine wp_call hdiv ?_
  rintro _ _ ⟨rfl, rfl⟩
  rw [e3]
  refine wp_done ⟨rfl, congr (congrArg (fun a b => Value.tuple #[.int .i64 a, .int .i64 b]) (w64 (by omega) (by omega))) (w64 (by omega) (by omega)), rfl⟩
end Go.Xe
namespace Go.Xe
open Go

def ovr : List Nat → List Value → Env → Env
  | k :: ks, v :: vs, ρ => fun t => bif Nat.beq t k then v else ovr ks vs ρ t
  | _, _, ρ => ρ

theorem ovr_self (ρ : Env) : ∀ ks : List Nat, ovr ks (ks.map ρ) ρ = ρ
  | [] => rfl
  | k :: ks => by
    funext t
    simp only [List.map_cons, ovr, ovr_self ρ ks]
    cases h : Nat.beq t k with
    | false => rfl
    | true => rw [Nat.eq_of_beq_eq_true h]; rfl

section
variable {L : Lay} {P : Program} {c : World} {ro : Option Nat} {n : Nat} {h : Hp} {Q : Exit → St → Hp → Prop}
theorem wp_loopK (hL : LayOk L P) {body : Code} {s : St} {k : Exit → St → X} (vs : List Nat) (lo hi : Nat) (hm : (modsIn vs lo hi body && noRF body) = true) (keep : List Nat) (kv : List Value) (hkv : keep.map s.ρ = kv) (ds0 : List Deferred) (hds : s.ds = ds0)
    (Inv : Nat → List Value → Hp → Prop) (j0 : Nat) (h0 : Inv j0 (vs.map s.ρ) h)
    (step : ∀ (ρ0 : Env) j g vals h', vals.length = vs.length → Inv j vals h' → (pe L n body ⟨hd vs vals lo hi g (ovr keep kv ρ0), ds0⟩ X.done).wp c P ro n h'
      (loopQ (fun s' h'' => ∃ j', j' < j ∧ Inv j' (vs.map s'.ρ) h'') (fun e s' h'' => (k e s').wp c P ro n h'' Q))) :
    (X.loop body s k).wp c P ro n h Q := by
  have e : s.ρ = ovr keep kv s.ρ := by rw [← hkv, ovr_self]
  refine wp_loopG hL vs lo hi hm Inv j0 h0 ?_
  intro j g vals h' h1 h2
  have := step s.ρ j g vals h' h1 h2
  rw [← e, ← hds] at this
  exact this
end
end Go.Xe
