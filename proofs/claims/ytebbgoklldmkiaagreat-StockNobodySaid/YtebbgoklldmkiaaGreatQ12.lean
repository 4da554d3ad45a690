/- Lemmas on the way: Maps by the list of their pairs. How the elements of slices lie in memory. Slices: an element is written, a slice is made, the end of one is cleared. -/
import Derived.Sort.Walk0
import Derived.Test.YtebbgoklldmkiaaGreatQ10
import Derived.Test.YtebbgoklldmkiaaGreatQ11
namespace Go.Xe
open Go Go.Proofs

def MapAt {K V : Type} (nt : Nat) (ek : K → List Value) (el : V → List Value) (lt : K → K → Bool) (M : List Nat) (h : Hp) (p : Option Addr) (xs : List (K × V)) : Prop :=
  ∃ t : Tr K V, TreeAt nt ek el M h t p ∧ t.toL = xs ∧ SortedK lt xs

section
variable {K V : Type} {nt : Nat} {ek : K → List Value} {el : V → List Value} {lt : K → K → Bool} {M M' : List Nat} {h h' : Hp} {p : Option Addr} {xs : List (K × V)}
theorem MapAt.chg (x : Chg M' h h') (hm : ∀ m, m ∈ M' → m ∈ M) (y : MapAt nt ek el lt M h p xs) : MapAt nt ek el lt M h' p xs := by
  obtain ⟨t, h1, h2, h3⟩ := y
  exact ⟨t, h1.chg x hm, h2, h3⟩
theorem MapAt.ext (x : Chg [] h h') (y : MapAt nt ek el lt M h p xs) : MapAt nt ek el lt M h' p xs := y.chg x (by simp)
theorem MapAt.sub (hm : ∀ m, m ∈ M' → m ∈ M) (y : MapAt nt ek el lt M h p xs) : MapAt nt ek el lt M' h p xs := by
  obtain ⟨t, h1, h2, h3⟩ := y
  exact ⟨t, h1.sub hm, h2, h3⟩
theorem MapAt.push {m : Nat} (hm : h.size ≤ m) (y : MapAt nt ek el lt M h p xs) : MapAt nt ek el lt (m :: M) h p xs := by
  obtain ⟨t, h1, h2, h3⟩ := y
  exact ⟨t, h1.push hm, h2, h3⟩
theorem MapAt.nil : MapAt nt ek el lt M h none ([] : List (K × V)) := ⟨.leaf, rfl, rfl, List.Pairwise.nil⟩
theorem MapAt.sorted (y : MapAt nt ek el lt M h p xs) : SortedK lt xs := y.choose_spec.2.2
end

def vPtr (b : Nat) : Value := .pointer (some ⟨b, 0, none⟩)
def zClip : Value := .agg #[.int .i64 0, .string ⟨#[]⟩, .string ⟨#[]⟩]
def zTot : Value := .agg #[.int .i64 0, .int .i64 0, .int .i64 0, .int .i64 0, .int .i64 0, .int .i64 0]
/-- a cell of another type is written -/
theorem TreeAt.wr {K V : Type} {nt : Nat} {ek : K → List Value} {el : V → List Value} {M : List Nat} {h h' : Hp} {b : Nat} {o : Obj} (x : Upd h h' b o) {cs : Array Value} {T : Nat} {fz : Nat × Nat} (hb : h[b]? = some (.cells cs T fz)) (hT : T ≠ nt) :
    ∀ {t : Tr K V} {p : Option Addr}, TreeAt nt ek el M h t p → TreeAt nt ek el M h' t p
  | .leaf, _, y => y
  | .node _ _ _ _, _, y => by
    obtain ⟨j, pl, pr, h1, h2, h3, h4, h5⟩ := y
    refine ⟨j, pl, pr, h1, h2, x.of h3 (fun e => ?_), TreeAt.wr x hb hT h4, TreeAt.wr x hb hT h5⟩
    subst e
    rw [hb] at h3
    injection h3 with h3
    injection h3 with _ h3 _
    exact hT h3

theorem length_insL {K V : Type} {lt : K → K → Bool} {k : K} {v : V} : ∀ xs : List (K × V), (insL lt k v xs).length ≤ xs.length + 1
  | [] => by simp [insL]
  | (a, b) :: xs => by
    have := length_insL (lt := lt) (k := k) (v := v) xs
    simp only [insL]
    split
    · simp
    · split <;> simp <;> omega

/-! the order of strings -/
theorem u8_lt {a b : UInt8} : a < b ↔ a.toNat < b.toNat := UInt8.lt_iff_toNat_lt
theorem u8_eq {a b : UInt8} : a = b ↔ a.toNat = b.toNat := UInt8.toNat_inj.symm
theorem lex_irr : ∀ a : List UInt8, Op.bytesLess a a = false
  | [] => rfl
  | x :: a => by simp [Op.bytesLess, lex_irr a]
theorem lex_tr : ∀ a b c : List UInt8, Op.bytesLess a b = true → Op.bytesLess b c = true → Op.bytesLess a c = true
  | [], [], _, h, _ => by simp [Op.bytesLess] at h
  | [], _ :: _, [], _, h => by simp [Op.bytesLess] at h
  | [], _ :: _, _ :: _, _, _ => by simp [Op.bytesLess]
  | _ :: _, [], _, h, _ => by simp [Op.bytesLess] at h
  | _ :: _, _ :: _, [], _, h => by simp [Op.bytesLess] at h
  | x :: a, y :: b, z :: c, h1, h2 => by
    simp only [Op.bytesLess, Bool.or_eq_true, Bool.and_eq_true, decide_eq_true_eq, beq_iff_eq, u8_lt] at h1 h2 ⊢
    rcases h1 with h1 | ⟨rfl, h1⟩
    · rcases h2 with h2 | ⟨rfl, h2⟩
      · exact .inl (by omega)
      · exact .inl h1
    · rcases h2 with h2 | ⟨rfl, h2⟩
      · exact .inl h2
      · exact .inr ⟨rfl, lex_tr a b c h1 h2⟩
theorem lex_tri : ∀ a b : List UInt8, Op.bytesLess a b = false → Op.bytesLess b a = false → a = b
  | [], [], _, _ => rfl
  | [], _ :: _, h, _ => by simp [Op.bytesLess] at h
  | _ :: _, [], _, h => by simp [Op.bytesLess] at h
  | x :: a, y :: b, h1, h2 => by
    simp only [Op.bytesLess, Bool.or_eq_false_iff, Bool.and_eq_false_iff, decide_eq_false_iff_not, beq_eq_false_iff_ne, u8_lt] at h1 h2
    have hxy : x = y := u8_eq.2 (by omega)
    subst hxy
    rcases h1.2 with h1 | h1
    · exact absurd rfl h1
    · rcases h2.2 with h2 | h2
      · exact absurd rfl h2
      · rw [lex_tri a b h1 h2]
theorem ba_inj {a b : ByteArray} (h : a.toList = b.toList) : a = b := by
  rw [Lib.toList_data, Lib.toList_data] at h
  cases a; cases b
  simpa [← Array.toList_inj] using h
theorem loS : LO ltS eqS := ⟨fun a => lex_irr _, fun a b c => lex_tr _ _ _, fun a b h1 h2 => ba_inj (lex_tri _ _ h1 h2), fun a b => ⟨fun h => ba_inj (by simpa [eqS] using h), fun h => by simp [eqS, h]⟩⟩
end Go.Xe
namespace Go.Xe
open Go Go.Proofs

structure PartR where
  clip : Int
  grams : Int
structure RestR where
  at_ : Int
  left : Int
def elPart (p : PartR) : List Value := [.int .i64 p.clip, .int .i64 p.grams]
def elRest (p : RestR) : List Value := [.int .i64 p.at_, .int .i64 p.left]

theorem enI : EncOk ti3 elInt := ⟨fun _ => rfl, by decide, rfl, fun x u hu => by rcases List.mem_singleton.1 hu with rfl; rfl, by decide⟩
theorem enPart : EncOk ti129 elPart := ⟨fun _ => rfl, by decide, rfl, fun x u hu => by
  rcases List.mem_cons.1 hu with rfl | hu
  · rfl
  · rcases List.mem_singleton.1 hu with rfl; rfl, by decide⟩
theorem enRest : EncOk ti310 elRest := ⟨fun _ => rfl, by decide, rfl, fun x u hu => by
  rcases List.mem_cons.1 hu with rfl | hu
  · rfl
  · rcases List.mem_singleton.1 hu with rfl; rfl, by decide⟩

abbrev IntsAt (M : List Nat) (h : Hp) (a : Option Addr) (cap : Nat) (l : List Int) := SlAt 3 1 elInt M h a cap l
abbrev PartsAt (M : List Nat) (h : Hp) (a : Option Addr) (cap : Nat) (l : List PartR) := SlAt 129 2 elPart M h a cap l
abbrev IntsOwn (h : Hp) (a : Option Addr) (cap : Nat) (l : List Int) (blk : Option Nat) := OwnAt 3 1 elInt h a cap l blk
abbrev PartsOwn (h : Hp) (a : Option Addr) (cap : Nat) (l : List PartR) (blk : Option Nat) := OwnAt 129 2 elPart h a cap l blk
abbrev RestsOwn (h : Hp) (a : Option Addr) (cap : Nat) (l : List RestR) (blk : Option Nat) := OwnAt 310 2 elRest h a cap l blk
def Fresh (h : Hp) (blk : Option Nat) : Prop := ∀ g, blk = some g → h.size ≤ g
theorem Chg.fresh {M M' : List Nat} {h h1 h2 : Hp} (x : Chg M h h1) (y : Chg M' h1 h2) (hm : ∀ m, m ∈ M' → m ∈ M ∨ h.size ≤ m) : Chg M h h2 :=
  ⟨Nat.le_trans x.size y.size, fun k hk hM => (y.same k (Nat.lt_of_lt_of_le hk x.size) (fun hh => (hm k hh).elim hM (fun h9 => by omega))).trans (x.same k hk hM)⟩
theorem Chg.freshO {M : List Nat} {blk : Option Nat} {h h1 h2 : Hp} (x : Chg M h h1) (y : Chg blk.toList h1 h2) (hm : Fresh h blk) : Chg M h h2 :=
  x.fresh y fun m hm' => .inr (hm m (by simpa using hm'))
theorem Fresh.step {h h1 : Hp} {blk blk2 : Option Nat} (x : Fresh h blk) (hle : h.size ≤ h1.size) (y : blk2 = blk ∨ ∃ g, blk2 = some g ∧ h1.size ≤ g) : Fresh h blk2 := by
  rcases y with rfl | ⟨g, rfl, hg⟩
  · exact x
  · intro g' hg'
    cases hg'
    omega
theorem Fresh.none {h : Hp} : Fresh h none := fun _ h => by cases h
theorem Fresh.new {h h' : Hp} {b : Nat} {o : Obj} (x : New h h' b o) : Fresh h (some b) := fun g hg => by cases hg; exact x.le
theorem Fresh.back {h h1 : Hp} {blk : Option Nat} (x : Fresh h1 blk) (hle : h.size ≤ h1.size) : Fresh h blk := fun g hg => Nat.le_trans hle (x g hg)
theorem Fresh.notin {h : Hp} {blk : Option Nat} {M : List Nat} (x : Fresh h blk) (hM : Bd M h) : ∀ g, blk = some g → g ∉ M := fun g hg hm => by
  have := x g hg
  have := hM g hm
  omega
end Go.Xe
namespace Go.Xe
open Go Go.Proofs

section
variable {α : Type} {e : Nat} {enc : α → List Value} {i : TI}
theorem take_wr {β : Type} (cs e : List β) (A S B : Nat) (he : e.length = S) (h1 : A + S ≤ B) (h2 : B ≤ cs.length) :
    (cs.take A ++ e ++ cs.drop (A + S)).take B = (cs.take B).take A ++ e ++ (cs.take B).drop (A + S) := by
  rw [List.take_append, List.take_of_length_le (by rw [List.length_append, List.length_take, he]; omega), List.take_take, Nat.min_eq_left (by omega), List.length_append, List.length_take, he, Nat.min_eq_left (by omega), ← List.drop_take]
theorem flat_set (henc : ∀ x : α, (enc x).length = i.size) : ∀ (l : List α) (j : Nat) (x : α), j < l.length → (l.set j x).flatMap enc = (l.flatMap enc).take (j * i.size) ++ enc x ++ (l.flatMap enc).drop (j * i.size + i.size)
  | [], _, _, h => by simp at h
  | y :: l, 0, x, _ => by
    simp only [List.set_cons_zero, List.flatMap_cons, Nat.zero_mul, List.take_zero, List.nil_append, Nat.zero_add]
    rw [← henc y, List.drop_left]
  | y :: l, j + 1, x, h => by
    have ih := flat_set henc l j x (by simpa using h)
    simp only [List.set_cons_succ, List.flatMap_cons]
    rw [ih, show (j + 1) * i.size = (enc y).length + j * i.size from by rw [henc, Nat.add_mul]; omega]
    rw [List.take_length_add_append, Nat.add_assoc, List.drop_length_add_append]
    simp [List.append_assoc]
end

section
variable {L : Lay} {P : Program} {c : World} {ro : Option Nat} {n : Nat} {h : Hp} {Q : Exit → St → Hp → Prop} {α : Type}
theorem wp_storeEl {e b : Nat} {i : TI} {enc : α → List Value} (hi : EncOk i enc) {cap : Nat} {l : List α} {blk : Option Nat} (ho : OwnAt e i.size enc h (some ⟨b, 0, none⟩) cap l blk) {j : Nat} (hj : j < l.length) (x : α) {v : Value}
    (hv : v.cells.toList = enc x) {k : X} (hk : ∀ h', OwnAt e i.size enc h' (some ⟨b, 0, none⟩) cap (l.set j x) blk → Chg [b] h h' → blk = some b → h'.size = h.size → k.wp c P ro n h' Q) : (X.store b (0 + j * i.size) i v k).wp c P ro n h Q := by
  rcases ho with ⟨h1, _⟩ | ⟨g, cs, h1, rfl, h3, h4, h5, h6, h7⟩
  · cases h1
  · have hg : b = g := by injection h1 with h1; injection h1
    subst hg
    have hvs : v.cells.size = i.size := by rw [← Array.length_toList, hv, hi.len]
    have hfit : (j + 1) * i.size ≤ cap * i.size := Nat.mul_le_mul_right _ (by omega)
    have hfit2 : (j + 1) * i.size ≤ l.length * i.size := Nat.mul_le_mul_right _ (by omega)
    rw [Nat.add_mul, Nat.one_mul] at hfit hfit2
    refine wp_store (cs := cs.toList) h3 ?_ ?_
    · simp only [okSt, Bool.and_eq_true, List.all_eq_true]
      exact ⟨⟨by rw [hvs]; exact Nat.beq_refl _, Nat.ble_eq_true_of_le (by simpa using by omega)⟩, fun u hu => hi.cell x u (by rw [← hv]; exact hu)⟩
    · intro h' hU
      refine hk h' (.inr ⟨b, _, rfl, rfl, hU.here, by simpa using h4, h5, ?_, ?_⟩) (hU.chg (by simp)) rfl hU.size
      · simp only [List.size_toArray, wrAt_length, Array.length_toList]; exact h6
      · have hl : cs.toList.length = cap * i.size := by simpa using h6
        have hlf := flat_len hi.len l
        rw [List.length_set, flat_set hi.len l j x hj, ← h7, hv]
        rw [wrAt_eq _ _ _ (by rw [hi.len]; omega), hi.len, Nat.zero_add]
        have := Nat.mul_le_mul_right i.size h4
        exact take_wr _ _ _ _ _ (hi.len x) (by omega) (by omega)

theorem wp_make (hL : LayOk L P) {e0 : Option (List Nat)} {t e : Nat} {ti i : TI} (ht : L t = some ti) (htd : ti.desc = .slice e) (hi : L e = some i) {enc : α → List Value} (z : α) (hz : i.zero.cells.toList = enc z) (henc : ∀ x, (enc x).length = i.size) (hby : i.bytes ≤ 10000)
    {m : Nat} (hm : m < 1000000) {k : Value → X}
    (hk : ∀ b h' cs, New h h' b (.cells cs e) → OwnAt e i.size enc h' (some ⟨b, 0, none⟩) m (List.replicate m z) (some b) → (k (.slice (some ⟨b, 0, none⟩) m m)).wp c P ro n h' Q) :
    (X.sem e0 (Instr.makeSlice t (.int .i64 m) (.int .i64 m)) k).wp c P ro n h Q := by
  intro w hw hc
  obtain ⟨x, hx1, hx2, hx3, hx4⟩ := hL.inf e i hi
  have hU : P.underlying t = some (.slice e) := by rw [hL.und t ti ht, htd]
  have hzs : i.zero.cells.size = i.size := hL.zsz e i hi
  have hb : x.bytes * m ≤ 10000 * 1000000 := Nat.mul_le_mul (by omega) (by omega)
  have hb' : ((x.bytes * m : Nat) : Int) ≤ 281474976710656 := by omega
  have hr := run_make (P := P) w t e x i.zero hU hx1 hx2 .i64 .i64 (m : Int) (m : Int) (by omega) (by omega) (by rw [← Int.natCast_mul]; exact hb') (by omega)
  refine ⟨_, _, hr, ⟨hc.os, hc.tape, hc.output⟩, Kp.of _ (by rw [← hw]; exact New.chg (o := .cells _ e) ⟨rfl, rfl⟩ []), ?_⟩
  simp only [Int.toNat_natCast]
  subst hw
  refine hk _ _ _ ⟨rfl, rfl⟩ (.inr ⟨_, _, rfl, rfl, World.alloc_heap_new w _, by simp, Nat.le_trans (Nat.le_of_lt hm) (by decide : (1000000 : Nat) ≤ maxLen), ?_, ?_⟩)
  · simp [madeCells, hx3]
  · have : (madeCells i.zero.cells (m * x.size)).toList = (List.replicate m z).flatMap enc := by
      apply List.ext_getElem?
      intro j
      have hfl : ((List.replicate m z).flatMap enc).length = m * i.size := by rw [flat_len henc]; simp
      by_cases hj : j < m * i.size
      · have h2 : ∀ m, ((List.replicate m z).flatMap enc) = repl m (enc z) := by
          intro m
          induction m with
          | zero => rfl
          | succ m ih => simp only [List.replicate_succ, List.flatMap_cons, repl, ih]
        rw [h2, repl_get m (enc z) j (by rw [henc]; exact hj), henc, hx3]
        have hpos : 0 < i.size := by rcases Nat.eq_zero_or_pos i.size with h0 | h0; (rw [h0] at hj; omega); exact h0
        have hlt : j % i.size < i.zero.cells.size := by rw [hzs]; exact Nat.mod_lt _ hpos
        rw [← hz]
        simp only [madeCells, Array.getElem?_toList, Array.getElem?_map, Array.getElem?_range, hj, if_true, Option.map_some, hzs]
        rw [getElem!_pos i.zero.cells _ hlt, Array.getElem?_eq_getElem hlt]
      · rw [List.getElem?_eq_none (l := (madeCells i.zero.cells (m * x.size)).toList) (by rw [Array.length_toList, size_madeCells, hx3]; omega), List.getElem?_eq_none (by rw [hfl]; omega)]
    rw [this]
    rw [List.take_of_length_le (by rw [flat_len henc]; simp)]

theorem wp_clear (hL : LayOk L P) {e0 : Option (List Nat)} {t ty e : Nat} {ti i : TI} (ht : L t = some ti) (htd : ti.desc = .slice e) (hi : L e = some i) {enc : α → List Value} (hen : EncOk i enc) (hz1 : i.zero.cells.toList.all (·.oneCell') = true)
    {ops : Array Operand} {ρ : Operand → Value} {a : Option Addr} {cap : Nat} {l : List α} {blk : Option Nat} {tys : Array TypeId} (htys : tys = #[t]) {j : Nat} (hj : j ≤ l.length)
    (has : ops.toList.map ρ = [.slice (if cap = j then a else a.map (·.add (j * i.size))) (l.length - j) (cap - j)]) (ho : OwnAt e i.size enc h a cap l blk)
    {k : Value → X} (he0 : e0 = none)
    (hk : ∀ h', OwnAt e i.size enc h' a cap (l.take j) blk → Chg blk.toList h h' → (k (.tuple #[])).wp c P ro n h' Q) :
    (X.sem e0 (Builtin.clear_ tys ty (ops.map ρ)) k).wp c P ro n h Q := by
  subst htys
  subst he0
  intro w hw hc
  subst hw
  obtain ⟨x, hx1, hx2, hx3, hx4⟩ := hL.inf e i hi
  have hU : P.underlying t = some (.slice e) := by rw [hL.und t ti ht, htd]
  have hzs : i.zero.cells.size = i.size := hL.zsz e i hi
  have hargs : ops.map ρ = #[.slice (if cap = j then a else a.map (·.add (j * i.size))) (l.length - j) (cap - j)] := by
    rw [← Array.toList_inj, Array.toList_map, has]
  rw [hargs]
  rcases ho with ⟨rfl, rfl, rfl, rfl⟩ | ⟨g, cs, rfl, rfl, h3, h4, h5, h6, h7⟩
  · have h0 : j = 0 := by simpa using hj
    subst h0
    refine ⟨.tuple #[], w, ?_, hc, trivial, hk _ (.inl ⟨rfl, rfl, rfl, rfl⟩) (Chg.refl _ _)⟩
    simp [Builtin.clear_, run_underlying hU]
  · by_cases hjl : j = l.length
    · subst hjl
      refine ⟨.tuple #[], w, ?_, hc, trivial, hk _ (.inr ⟨g, cs, rfl, rfl, h3, by simpa using h4, h5, h6, by simpa using h7⟩) (Chg.refl _ _)⟩
      simp only [Nat.sub_self]
      split
      · simp [Builtin.clear_, run_underlying hU]
      · simp [Builtin.clear_, run_underlying hU, Addr.add_lit]
    · have hne : ¬ cap = j := by omega
      simp only [if_neg hne, Option.map_some, Addr.add_lit, Nat.zero_add]
      have hmul : (j + (l.length - j)) * i.size ≤ cap * i.size := Nat.mul_le_mul_right _ (by omega)
      rw [Nat.add_mul] at hmul
      have hzl : (Builtin.zeroCells i.zero.cells (l.length - j)).toList.length = (l.length - j) * i.size := by simp [size_zeroCells, hzs]
      have hone : ∀ u ∈ (Builtin.zeroCells i.zero.cells (l.length - j)).toList, u.oneCell' = true := by
        intro u hu
        simp only [Builtin.zeroCells, Array.toList_map, List.mem_map] at hu
        obtain ⟨q, hq, rfl⟩ := hu
        have hq : q < (l.length - j) * i.zero.cells.size := by simpa using hq
        have hpos : 0 < i.zero.cells.size := by rcases Nat.eq_zero_or_pos i.zero.cells.size with h0 | h0; (rw [h0] at hq; omega); exact h0
        have hlt : q % i.zero.cells.size < i.zero.cells.size := Nat.mod_lt _ hpos
        rw [List.all_eq_true] at hz1
        exact hz1 _ (by rw [getElem!_pos i.zero.cells _ hlt]; simp)
      have hst := run_storeCells_at P g (j * i.size) e (Builtin.zeroCells i.zero.cells (l.length - j)).toList 0 cs w h3 (by rw [hzl]; omega) hone
      simp only [Nat.add_zero] at hst
      have hn0 : ∃ q, l.length - j = q + 1 := ⟨l.length - j - 1, by omega⟩
      obtain ⟨q, hq⟩ := hn0
      have hrun : (Builtin.clear_ #[t] ty #[.slice (some ⟨g, j * i.size, none⟩) (l.length - j) (cap - j)]).run P w = .ok (.tuple #[]) (w.setRow g
        (List.take (j * i.size) cs.toList ++ (Builtin.zeroCells i.zero.cells (l.length - j)).toList ++ List.drop (j * i.size + (Builtin.zeroCells i.zero.cells (l.length - j)).toList.length) cs.toList).toArray) := by
        rw [hq] at hst ⊢
        simp [Builtin.clear_, run_underlying hU, run_zero hL hi, hst]
      refine ⟨.tuple #[], _, hrun, hc.setRow _ _, trivial, hk _ (.inr ⟨g, _, rfl, rfl, setRow_heap w g cs _ e _ h3, by simp; omega, h5, ?_, ?_⟩) ⟨by simp, fun b _ hb => setRow_other w g b _ (fun e => hb (by simp [e]))⟩⟩
      · simp only [List.size_toArray, List.length_append, List.length_take, List.length_drop, Array.length_toList, hzl]
        omega
      · simp only [List.length_take]
        rw [Nat.min_eq_left hj]
        rw [List.append_assoc, List.take_append_of_le_length (by rw [List.length_take, Array.length_toList]; omega), List.take_take, Nat.min_self]
        have := congrArg (List.take (j * i.size)) h7
        have hjm : j * i.size ≤ l.length * i.size := Nat.mul_le_mul_right _ hj
        rw [List.take_take, Nat.min_eq_left hjm] at this
        rw [this]
        conv => lhs; rw [← List.take_append_drop j l, List.flatMap_append]
        rw [List.take_append_of_le_length (by rw [flat_len hen.len, List.length_take, Nat.min_eq_left hj]; exact Nat.le_refl _)]
        exact List.take_of_length_le (by rw [flat_len hen.len, List.length_take, Nat.min_eq_left hj]; exact Nat.le_refl _)
end
end Go.Xe
