/- Lemmas on the way: slices.Sort and slices.Sorted at whole numbers. What the moves do: plain functions. How great the shares of a division are. -/
import Derived.Shelf.Slices.In.SortNone
import Derived.Test.YtebbgoklldmkiaaGreatQ27
import Derived.Test.YtebbgoklldmkiaaGreatQ26
import Derived.Test.YtebbgoklldmkiaaGreatQ17
namespace Go.Xe
open Go Go.Proofs
set_option maxRecDepth 20000
variable {c : World}
theorem enter_of {P : Program} {f : Nat} {fn : Func} (hf : P.funcs[f]? = some fn) (hb : fn.body.isSome = true) (hname : (fn.name == "runtime.NumGoroutine") = false) (xs : Array Value) (w : World) : (callFunc f xs).run P w = .ok (.enter f xs) w := by
  have hb' : fn.body.isNone = false := by cases hx : fn.body <;> simp_all
  simp only [callFunc, Sem.run_bind, run_program, Result.andThen_ok, hf, hname, hb', Bool.false_eq_true, if_false, Sem.run_pure]
theorem putCells_get (off : Nat) (d : Array Int) (cs : Array Value) (k : Nat) : (Sort.putCells (Value.int .i64) off d cs)[k]? = (cs[k]?).map fun x => if off ≤ k ∧ k < off + d.size then Value.int .i64 d[k - off]! else x := by
  simp only [Sort.putCells, Array.getElem?_mapIdx]
theorem flat_int (l : List Int) : l.flatMap elInt = l.map (Value.int .i64) := by
  induction l with
  | nil => rfl
  | cons x l ih => simp only [List.flatMap_cons, List.map_cons, ih]; rfl
theorem sort_c (l : List Int) (a : Option Addr) (cap : Nat) (blk : Option Nat) (h : Hp) (ho : IntsOwn h a cap l blk) (hz : l.length < 900000) :
    Call c Tryz.prog 87 #[.slice a l.length cap] h fun v h' => v = .tuple #[] ∧ IntsOwn h' a cap (sortI l) blk ∧ Chg blk.toList h h' := by
  refine ⟨enter_of Tryz.func87 rfl rfl, fun w hw hc => ?_⟩
  rcases ho with ⟨rfl, rfl, rfl, rfl⟩ | ⟨g, cs, rfl, rfl, h3, h4, h5, h6, h7⟩
  · refine (Any.slices_Sort_int_none Tryz.lays189 none 0 w).mono ?_
    rintro e w' ⟨rfl, rfl⟩
    exact ⟨hc, rfl, by rw [hw]; exact .inl ⟨rfl, rfl, by simp [sortI], rfl⟩, by rw [hw]; exact Chg.refl _ _⟩
  · subst hw
    have h7' : cs.toList.take l.length = l.map (Value.int .i64) := by rw [← flat_int]; simpa using h7
    have hcell : ∀ j (hj : j < l.length), cs[j]? = some (.int .i64 l[j]) := by
      intro j hj
      have := congrArg (fun z => z[j]?) h7'
      simp only [List.getElem?_take, if_pos hj, List.getElem?_map, List.getElem?_eq_getElem hj, Option.map_some, Array.getElem?_toList] at this
      exact this
    refine (Any.slices_Sort_int Tryz.lays189 g 0 cap l w ?_ (Array.getElem?_eq_some_iff.1 h3).1 (by omega)).mono ?_
    · intro j hj
      have hj' : j < l.length := by simpa using hj
      refine ⟨?_, ?_⟩
      · simp only [World.cell?, h3, Nat.zero_add, hcell j hj']
        rw [getElem!_pos _ j hj]
        simp
      · simp [World.frozen?, h3]
    · rintro e w' ⟨rfl, n, os, rfl⟩
      rw [sortI_merge]
      have hg := (Array.getElem?_eq_some_iff.1 h3).1
      have hsz : l.length * 1 ≤ cs.size := by rw [h6]; exact Nat.mul_le_mul_right _ h4
      have hnew : (Sort.grow (Sort.putRow (Value.int .i64) (Sort.ahead w n) g 0 (sortI l).toArray) os).heap[g]? = some (.cells (Sort.putCells (Value.int .i64) 0 (sortI l).toArray cs) 3 (0, 0)) := by
        rw [Sort.heap_grow_old _ _ (by simpa [Sort.ahead] using hg)]
        simp only [Sort.putRow, Sort.mapBlock, Sort.ahead, Array.getElem?_modify, h3, if_true, Option.map_some, Sort.onCells]
      refine ⟨⟨hc.os, hc.tape, hc.output⟩, rfl, ?_, ?_⟩
      · refine .inr ⟨g, _, rfl, rfl, hnew, by rw [sortI_len]; exact h4, h5, by simp [Sort.putCells, h6], ?_⟩
        rw [flat_int]
        apply List.ext_getElem?
        intro k
        have hl := sortI_len l
        simp only [List.getElem?_take, Array.getElem?_toList, putCells_get, List.getElem?_map, Nat.mul_one, hl]
        by_cases hk : k < l.length
        · have hks : k < (sortI l).length := by omega
          rw [if_pos hk, hcell k hk, List.getElem?_eq_getElem hks]
          simp only [Option.map_some]
          rw [if_pos ⟨Nat.zero_le _, by simpa using hks⟩, getElem!_pos _ _ (by simpa using hks)]
          simp
        · rw [if_neg hk, List.getElem?_eq_none (by omega)]
          rfl
      · refine ⟨by simp [Sort.ahead], fun k hk hm => ?_⟩
        have hkg : g ≠ k := fun e => hm (by simp [e])
        rw [Sort.heap_grow_old _ _ (by simpa [Sort.ahead] using hk)]
        simp only [Sort.putRow, Sort.mapBlock, Sort.ahead, Array.getElem?_modify]
        rw [if_neg hkg]
theorem values_c (nos : List Int) (a : Option Addr) (cap : Nat) (h : Hp) : Call c Tryz.prog 167 #[.slice a nos.length cap] h fun v h' => ∃ b, v = .func (.func 214) #[] #[.pointer (some ⟨b, 0, none⟩)] ∧ New h h' b (.cells #[.slice a nos.length cap] 34) := by
  refine call_of layOk 4 Tryz.func167 Tryz.ntmps167 rfl rfl rfl rfl ?_
  refine wp_new ?_
  intro b h1 hN
  exact wp_done ⟨rfl, b, rfl, hN⟩
theorem sorted_c (M : List Nat) (nos : List Int) (a : Option Addr) (cap b1 : Nat) (hz : nos.length < 900000) (h : Hp) (hn : IntsAt M h a cap nos) (hb : h[b1]? = some (.cells #[.slice a nos.length cap] 34 (0, 0))) :
    Call c Tryz.prog 166 #[.func (.func 214) #[] #[.pointer (some ⟨b1, 0, none⟩)]] h fun v h' => ∃ a' cap' blk', v = .slice a' nos.length cap' ∧ IntsOwn h' a' cap' (sortI nos) blk' ∧ Chg [] h h' ∧ Fresh h blk' := by
  have hcol : Call c Tryz.prog 213 #[.func (.func 214) #[] #[.pointer (some ⟨b1, 0, none⟩)]] h fun v h' => ∃ a' cap' blk', v = .slice a' nos.length cap' ∧ IntsOwn h' a' cap' nos blk' ∧ Chg [] h h' ∧ Fresh h blk' := by
    refine call_of layOk 5 Tryz.func213 Tryz.ntmps213 rfl rfl rfl rfl ?_
    refine wp_call (appendSeq_c M nos a cap b1 hz h hn hb) ?_
    rintro _ h1 ⟨a1, cap1, blk1, rfl, h1, h2, h3⟩
    exact wp_done ⟨rfl, a1, cap1, blk1, rfl, h1, h2, h3⟩
  refine call_of layOk 9 Tryz.func166 Tryz.ntmps166 rfl rfl rfl rfl ?_
  refine wp_call hcol ?_
  rintro _ h1 ⟨a1, cap1, blk1, rfl, ho1, hc1, hf1⟩
  refine wp_call (sort_c nos a1 cap1 blk1 h1 ho1 hz) ?_
  rintro _ h2 ⟨rfl, ho2, hc2⟩
  exact wp_done ⟨rfl, a1, cap1, blk1, rfl, ho2, hc1.freshO hc2 hf1, hf1⟩
end Go.Xe
namespace Go.Xe
open Go Go.Proofs
abbrev Res := Int × Int × StateR
def findF (bs : List (Int × BaleR)) (no : Int) (states : List Int) : Int × BaleR :=
  match getL eqI no bs with
  | none => (7, zBaleR)
  | some r => bif states.contains r.state then (0, r) else (10, zBaleR)
/-- the largest number of parts that a division is walked for -/
abbrev LP : Nat := 20
/-- what a division of a bale asks for -/
structure BaleW (r : BaleR) : Prop where
  few : r.parts.length < LP
  parts : ∀ p, p ∈ r.parts → 0 ≤ p.grams ∧ p.grams ≤ 1073741824
  sum : 0 < sumI (r.parts.map (·.grams))
  grams : 0 ≤ r.grams ∧ r.grams ≤ 1073741824
  from_ : r.from_.length < 900000
structure SizeW (σ : StateR) : Prop where
  clips : σ.clips.length < 800000
  names : σ.names.length < 800000
  bales : σ.bales.length < 800000
  lots : σ.lots.length < 800000
  totals : σ.totals.length < 800000
def FindW (σ : StateR) (no : Int) : Prop := ∀ r, getL eqI no σ.bales = some r → BaleW r
/-- the bale of a number bears it -/
def KeyW (σ : StateR) (no : Int) : Prop := ∀ r, getL eqI no σ.bales = some r → r.no = no
def splitF (σ : StateR) (m : MoveR) : Res :=
  let f := findF σ.bales m.no [0]
  if f.1 ≠ 0 then (0, f.1, σ)
  else if m.grams < 1 then (0, 2, σ)
  else if m.grams ≥ f.2.grams then (0, 11, σ)
  else if 512 ≤ σ.bales.length then (0, 9, σ)
  else
    let taken := portionL m.grams f.2.parts
    let b : BaleR := { f.2 with parts := lessL f.2.parts taken, grams := f.2.grams - m.grams }
    let σ1 := keepS σ b
    (σ1.bales.length + 1, 0, madeS σ1 ⟨0, f.2.kind, m.grams, solidL taken, 0, ⟨#[]⟩, [f.2.no]⟩)
/-- the totals are told part by part -/
def tellAll (F : Int → TotR → TotR) : List PartR → StateR → StateR
  | [], σ => σ
  | p :: l, σ => tellAll F l (tellS σ p.clip (F p.grams))
def coreT (g : Int) (t : TotR) : TotR := { t with cored := W (t.cored + g), live := W (t.live - g) }
def weighT (g : Int) (t : TotR) : TotR := { t with air := W (t.air + g), live := W (t.live + g) }
def wasteT (g : Int) (t : TotR) : TotR := { t with wasted := W (t.wasted + g), live := W (t.live - g) }
def sendT (g : Int) (t : TotR) : TotR := { t with sent := W (t.sent + g), live := W (t.live - g) }
def coreF (σ : StateR) (m : MoveR) : Res :=
  let f := findF σ.bales m.no [0, 1]
  if f.1 ≠ 0 then (0, f.1, σ)
  else if m.grams < 1 then (0, 2, σ)
  else if m.grams ≥ f.2.grams then (0, 11, σ)
  else
    let taken := portionL m.grams f.2.parts
    (0, 0, keepS (tellAll coreT taken σ) { f.2 with parts := lessL f.2.parts taken, grams := f.2.grams - m.grams })
def weighF (σ : StateR) (m : MoveR) : Res :=
  let f := findF σ.bales m.no [0, 1]
  if f.1 ≠ 0 then (0, f.1, σ)
  else if m.grams < 1 then (0, 2, σ)
  else if m.grams > 1073741824 then (0, 2, σ)
  else
    let now := portionL m.grams f.2.parts
    (0, 0, keepS (tellAll weighT (subG now f.2.parts) σ) { f.2 with parts := solidL now, grams := m.grams })
def turnF (σ : StateR) (no a b : Int) : Res :=
  let f := findF σ.bales no [a]
  if f.1 ≠ 0 then (0, f.1, σ) else (0, 0, keepS σ { f.2 with state := b })
def wasteF (σ : StateR) (m : MoveR) : Res :=
  let t := turnF σ m.no 0 3
  if t.2.1 ≠ 0 then (0, t.2.1, σ)
  else (0, 0, tellAll wasteT (((getL eqI m.no t.2.2.bales).map (·.parts)).getD []) t.2.2)
def sevGo (bs : List (Int × BaleR)) (all : List Int) : Nat → List Int → List BaleR → Int × List BaleR
  | _, [], out => bif out.all fun b => kindB b.kind ((out.head?.getD zBaleR).kind) then (0, out) else (12, [])
  | i, no :: rest, out =>
    let f := findF bs no [0]
    if f.1 = 7 then (7, [])
    else if (all.take i).contains no = true then (2, [])
    else if f.1 ≠ 0 then (f.1, [])
    else sevGo bs all (i + 1) rest (out ++ [f.2])
def severalF (bs : List (Int × BaleR)) (nos : List Int) : Int × List BaleR := sevGo bs nos 0 nos []
def addP (ps : List (Int × Int)) : List PartR → List (Int × Int)
  | [] => ps
  | p :: l => addP (insL ltI p.clip (W ((getL eqI p.clip ps).getD 0 + p.grams)) ps) l
def addB (ps : List (Int × Int)) : List BaleR → List (Int × Int)
  | [] => ps
  | b :: l => addB (addP ps b.parts) l
def sumB : Int → List BaleR → Int
  | g, [] => g
  | g, b :: l => sumB (W (g + b.grams)) l
def keepAll (F : BaleR → BaleR) : List BaleR → StateR → StateR
  | [], σ => σ
  | b :: l, σ => keepAll F l (keepS σ (F b))
def mergeF (σ : StateR) (m : MoveR) : Res :=
  if m.nos.length > 16 then (0, 3, σ)
  else if m.nos.length < 2 then (0, 2, σ)
  else
    let f := severalF σ.bales m.nos
    if f.1 ≠ 0 then (0, f.1, σ)
    else if sumB 0 f.2 > 1073741824 then (0, 4, σ)
    else if 512 ≤ σ.bales.length then (0, 9, σ)
    else
      let σ1 := keepAll (fun b => { b with state := 3 }) f.2 σ
      (σ1.bales.length + 1, 0, madeS σ1 ⟨0, (f.2.head?.getD zBaleR).kind, sumB 0 f.2, (addB [] f.2).map fun x => ⟨x.1, x.2⟩, 0, ⟨#[]⟩, sortI m.nos⟩)
def lotF (σ : StateR) (m : MoveR) : Res :=
  if nameB m.name = false then (0, 2, σ)
  else if (getL eqS m.name σ.lots).isSome = true then (0, 8, σ)
  else if m.nos.length > 16 then (0, 3, σ)
  else if m.nos.length = 0 then (0, 2, σ)
  else
    let f := severalF σ.bales m.nos
    if f.1 ≠ 0 then (0, f.1, σ)
    else if 64 ≤ σ.lots.length then (0, 9, σ)
    else
      let σ1 := keepAll (fun b => { b with state := 1, lot := m.name }) f.2 σ
      (0, 0, { σ1 with lots := insL ltS m.name ⟨m.name, sortI m.nos, false⟩ σ1.lots })
def openedF (ls : List (ByteArray × LotR)) (name : ByteArray) : Int × LotR :=
  match getL eqS name ls with
  | none => (7, ⟨⟨#[]⟩, [], false⟩)
  | some l => bif l.sent then (10, ⟨⟨#[]⟩, [], false⟩) else (0, l)
def freeAll : List Int → StateR → StateR
  | [], σ => σ
  | no :: l, σ => freeAll l (keepS σ { (findF σ.bales no [1]).2 with state := 0, lot := ⟨#[]⟩ })
def unlotF (σ : StateR) (m : MoveR) : Res :=
  let f := openedF σ.lots m.name
  if f.1 ≠ 0 then (0, f.1, σ)
  else
    let σ1 := freeAll f.2.bales σ
    (0, 0, { σ1 with lots := delL eqS m.name σ1.lots })
def sendAll : List Int → StateR → StateR
  | [], σ => σ
  | no :: l, σ =>
    let b := (findF σ.bales no [1]).2
    sendAll l (tellAll sendT b.parts (keepS σ { b with state := 3 }))
def sendF (σ : StateR) (m : MoveR) : Res :=
  let f := openedF σ.lots m.name
  if f.1 ≠ 0 then (0, f.1, σ)
  else
    let σ1 := sendAll f.2.bales σ
    (0, 0, { σ1 with lots := insL ltS m.name ⟨f.2.name, f.2.bales, true⟩ σ1.lots })
def stepF (σ : StateR) (m : MoveR) : Res :=
  if m.what = 1 then clipF σ m else if m.what = 2 then recvF σ m else if m.what = 3 then splitF σ m else if m.what = 4 then mergeF σ m
  else if m.what = 5 then coreF σ m else if m.what = 6 then weighF σ m else if m.what = 7 then turnF σ m.no 0 2 else if m.what = 8 then turnF σ m.no 2 0
  else if m.what = 9 then wasteF σ m else if m.what = 10 then lotF σ m else if m.what = 11 then unlotF σ m else if m.what = 12 then sendF σ m
  else (0, 2, σ)

theorem find2_c {c : World} (M Ms : List Nat) (sb : Nat) (p : StP) (σ : StateR) (no : Int) (states : List Int) (a : Option Addr) (cap : Nat) (h : Hp) (hsb : StBlk h sb p) (hσ : StOk M h p σ) (hs : IntsAt Ms h a cap states) (hz : states.length < 900000) :
    Call c Tryz.prog 158 #[.pointer (some ⟨sb, 0, none⟩), .int .i64 no, .slice a states.length cap] h fun v h' => ∃ q, v = .tuple #[vBale (findF σ.bales no states).2 q, .int .i64 (findF σ.bales no states).1] ∧ BalOk M h' (findF σ.bales no states).2 q ∧ Chg [] h h' := by
  refine (find_c (c := c) M Ms sb p σ no states a cap h hsb hσ hs hz).mono ?_
  rintro v h' ⟨hf, hc⟩
  unfold FindR at hf
  unfold findF
  cases hg : getL eqI no σ.bales with
  | none => rw [hg] at hf; exact ⟨zBalP, hf, ⟨.nil, .nil⟩, hc⟩
  | some r =>
    rw [hg] at hf
    cases hb : states.contains r.state with
    | true => simp only [hb, cond_true] at hf ⊢; obtain ⟨q, hv, hq⟩ := hf; exact ⟨q, hv, hq, hc⟩
    | false => simp only [hb, cond_false] at hf ⊢; exact ⟨zBalP, hf, ⟨.nil, .nil⟩, hc⟩
theorem findF_ok {bs : List (Int × BaleR)} {no : Int} {states : List Int} (h : (findF bs no states).1 = 0) : getL eqI no bs = some (findF bs no states).2 ∧ states.contains (findF bs no states).2.state = true := by
  unfold findF at *
  cases hg : getL eqI no bs with
  | none => rw [hg] at h; cases h
  | some r =>
    rw [hg] at h
    cases hb : states.contains r.state with
    | true => simp only [hb, cond_true]; exact ⟨trivial, trivial⟩
    | false => simp only [hb, cond_false] at h; cases h
end Go.Xe
namespace Go.Xe
open Go Go.Proofs
theorem sortR_len (l : List RestR) : (sortR l).length = l.length := (sortR_perm l).length_eq
theorem apportion_bd (t : Int) (l : List Int) (ht0 : 0 ≤ t) (ht : t ≤ 1073741824) (hw : ∀ w, w ∈ l → 0 ≤ w ∧ w ≤ 1073741824) (hsum : 0 < sumI l) (hl : l.length < 900000) : ∀ y, y ∈ apportion t l → 0 ≤ y ∧ y ≤ 2147483648 := by
  intro y hy
  unfold apportion at hy
  have h1 := foldl_bump_bd (((sortR (rests t (sumI l) 0 l)).take (t - sumI (l.map fun w => t * w / sumI l)).toNat)) 1073741824 (l.map fun w => t * w / sumI l) (by
    intro x hx
    obtain ⟨w, hwm, rfl⟩ := List.mem_map.1 hx
    refine ⟨Int.ediv_nonneg (Int.mul_nonneg ht0 (hw w hwm).1) (by omega), ?_⟩
    have hle := mem_le_sumI l w (fun x hx => (hw x hx).1) hwm
    have : t * w / sumI l ≤ t := Int.ediv_le_of_le_mul hsum (Int.mul_le_mul_of_nonneg_left hle ht0)
    omega) y hy
  have h2 : ((sortR (rests t (sumI l) 0 l)).take (t - sumI (l.map fun w => t * w / sumI l)).toNat).length ≤ l.length := by
    rw [List.length_take, sortR_len, rests_len]
    exact Nat.min_le_right _ _
  omega
theorem putG_mem : ∀ (l : List PartR) (gs : List Int) (p : PartR), p ∈ putG l gs → p.grams ∈ gs ∧ ∃ q, q ∈ l ∧ q.clip = p.clip
  | [], _, p, h => by simp [putG] at h
  | _ :: _, [], p, h => by simp [putG] at h
  | x :: l, g :: gs, p, h => by
    simp only [putG, List.mem_cons] at h
    rcases h with rfl | h
    · exact ⟨by simp, x, by simp, rfl⟩
    · obtain ⟨h1, q, h2, h3⟩ := putG_mem l gs p h
      exact ⟨List.mem_cons_of_mem _ h1, q, List.mem_cons_of_mem _ h2, h3⟩
theorem portion_bd (t : Int) (l : List PartR) (ht0 : 0 ≤ t) (ht : t ≤ 1073741824) (hw : ∀ p, p ∈ l → 0 ≤ p.grams ∧ p.grams ≤ 1073741824) (hsum : 0 < sumI (l.map (·.grams))) (hl : l.length < 900000) : ∀ p, p ∈ portionL t l → 0 ≤ p.grams ∧ p.grams ≤ 2147483648 := by
  intro p hp
  refine apportion_bd t (l.map (·.grams)) ht0 ht ?_ hsum (by rw [List.length_map]; exact hl) _ (putG_mem _ _ _ hp).1
  intro w hwm
  obtain ⟨q, hq, rfl⟩ := List.mem_map.1 hwm
  exact hw q hq
theorem portionL_len (t : Int) (l : List PartR) : (portionL t l).length = l.length := putG_len _ _ (by rw [apportion_len, List.length_map])
end Go.Xe
