/- Slices: those that are read, those that a function owns; append and make. -/
import Derived.Laws.AppendOwn
import Derived.Laws.MakeOwn
import Derived.Test.YtebbgoklldmkiaaGreatQ10
namespace Go.Xe
open Go Go.Proofs

section
variable {α : Type}
/-- l lies in memory, not in M -/
def SlAt (e sz : Nat) (enc : α → List Value) (M : List Nat) (h : Hp) (a : Option Addr) (cap : Nat) (l : List α) : Prop :=
  (a = none ∧ cap = 0 ∧ l = []) ∨ ∃ b o cs, a = some ⟨b, o, none⟩ ∧ b ∉ M ∧ h[b]? = some (.cells cs e (0, 0)) ∧ l.length ≤ cap ∧ o + cap * sz ≤ cs.size ∧ (cs.toList.drop o).take (l.length * sz) = l.flatMap enc

/-- l lies in a block of its own -/
def OwnAt (e sz : Nat) (enc : α → List Value) (h : Hp) (a : Option Addr) (cap : Nat) (l : List α) (blk : Option Nat) : Prop :=
  (a = none ∧ cap = 0 ∧ l = [] ∧ blk = none) ∨ ∃ g cs, a = some ⟨g, 0, none⟩ ∧ blk = some g ∧ h[g]? = some (.cells cs e (0, 0)) ∧ l.length ≤ cap ∧ cap ≤ maxLen ∧ cs.size = cap * sz ∧ cs.toList.take (l.length * sz) = l.flatMap enc

variable {e sz : Nat} {enc : α → List Value} {M M' : List Nat} {h h' : Hp} {a : Option Addr} {cap : Nat} {l : List α} {blk : Option Nat}

theorem SlAt.nil : SlAt e sz enc M h none 0 ([] : List α) := .inl ⟨rfl, rfl, rfl⟩
theorem SlAt.chg (x : Chg M' h h') (hm : ∀ m, m ∈ M' → m ∈ M) (y : SlAt e sz enc M h a cap l) : SlAt e sz enc M h' a cap l := by
  rcases y with y | ⟨b, o, cs, h1, h2, h3, h4⟩
  · exact .inl y
  · exact .inr ⟨b, o, cs, h1, h2, x.of h3 (fun hh => h2 (hm b hh)), h4⟩
theorem SlAt.ext (x : Chg [] h h') (y : SlAt e sz enc M h a cap l) : SlAt e sz enc M h' a cap l := y.chg x (by simp)
theorem SlAt.sub (hm : ∀ m, m ∈ M' → m ∈ M) (y : SlAt e sz enc M h a cap l) : SlAt e sz enc M' h a cap l := by
  rcases y with y | ⟨b, o, cs, h1, h2, h3⟩
  · exact .inl y
  · exact .inr ⟨b, o, cs, h1, fun hh => h2 (hm b hh), h3⟩
theorem SlAt.push {m : Nat} (hm : h.size ≤ m) (y : SlAt e sz enc M h a cap l) : SlAt e sz enc (m :: M) h a cap l := by
  rcases y with y | ⟨b, o, cs, h1, h2, h3, h4⟩
  · exact .inl y
  · have := (Array.getElem?_eq_some_iff.1 h3).1
    exact .inr ⟨b, o, cs, h1, fun hh => by rcases List.mem_cons.1 hh with rfl | hh; exact absurd hm (by omega); exact h2 hh, h3, h4⟩
theorem SlAt.wr {b : Nat} {o : Obj} (x : Upd h h' b o) {cs : Array Value} {T : Nat} {fz : Nat × Nat} (hb : h[b]? = some (.cells cs T fz)) (hT : T ≠ e) (y : SlAt e sz enc M h a cap l) : SlAt e sz enc M h' a cap l := by
  rcases y with y | ⟨b', o, cs', h1, h2, h3, h4⟩
  · exact .inl y
  · refine .inr ⟨b', o, cs', h1, h2, x.of h3 (fun e => ?_), h4⟩
    subst e
    rw [hb] at h3
    injection h3 with h3
    injection h3 with _ h3 _
    exact hT h3
theorem OwnAt.nil : OwnAt e sz enc h none 0 ([] : List α) none := .inl ⟨rfl, rfl, rfl, rfl⟩
theorem OwnAt.chg (x : Chg M h h') (hm : ∀ g, blk = some g → g ∉ M) (y : OwnAt e sz enc h a cap l blk) : OwnAt e sz enc h' a cap l blk := by
  rcases y with y | ⟨g, cs, h1, h2, h3, h4⟩
  · exact .inl y
  · exact .inr ⟨g, cs, h1, h2, x.of h3 (hm g h2), h4⟩
theorem OwnAt.ext (x : Chg [] h h') (y : OwnAt e sz enc h a cap l blk) : OwnAt e sz enc h' a cap l blk := y.chg x (by simp)
theorem OwnAt.wr {b : Nat} {o : Obj} (x : Upd h h' b o) (hT : ∀ g, blk = some g → g ≠ b) (y : OwnAt e sz enc h a cap l blk) : OwnAt e sz enc h' a cap l blk := by
  rcases y with y | ⟨g, cs, h1, h2, h3, h4⟩
  · exact .inl y
  · exact .inr ⟨g, cs, h1, h2, x.of h3 (hT g h2), h4⟩
theorem OwnAt.sl (y : OwnAt e sz enc h a cap l blk) (hm : ∀ g, blk = some g → g ∉ M) : SlAt e sz enc M h a cap l := by
  rcases y with ⟨h1, h2, h3, _⟩ | ⟨g, cs, h1, h2, h3, h4, h5, h6, h7⟩
  · exact .inl ⟨h1, h2, h3⟩
  · exact .inr ⟨g, 0, cs, h1, hm g h2, h3, h4, by omega, by simpa using h7⟩
theorem OwnAt.lt (y : OwnAt e sz enc h a cap l blk) : ∀ g, blk = some g → g < h.size := by
  rcases y with ⟨_, _, _, rfl⟩ | ⟨g, cs, h1, rfl, h3, _⟩
  · intro g hg; cases hg
  · intro g' hg
    cases hg
    exact (Array.getElem?_eq_some_iff.1 h3).1

/-- the value that the cells of an element make -/
def valOf (i : TI) (cs : List Value) : Value :=
  match i.desc with
  | .struct _ | .array _ _ => .agg cs.toArray
  | _ => cs.headD undef

theorem flat_len (henc : ∀ x : α, (enc x).length = sz) : ∀ l : List α, (l.flatMap enc).length = l.length * sz
  | [] => by simp
  | x :: l => by
    simp only [List.flatMap_cons, List.length_append, henc, flat_len henc l, List.length_cons, Nat.add_mul]
    omega
theorem flat_at (henc : ∀ x : α, (enc x).length = sz) : ∀ (l : List α) (j : Nat) (x : α), l[j]? = some x → ((l.flatMap enc).drop (j * sz)).take sz = enc x
  | [], _, _, h => by simp at h
  | y :: l, 0, x, h => by
    simp only [List.getElem?_cons_zero, Option.some.injEq] at h
    subst h
    simp only [List.flatMap_cons, Nat.zero_mul, List.drop_zero]
    rw [← henc y, List.take_left]
  | y :: l, j + 1, x, h => by
    simp only [List.getElem?_cons_succ] at h
    have := flat_at henc l j x h
    simp only [List.flatMap_cons]
    rw [show (j + 1) * sz = sz + j * sz from by rw [Nat.add_mul]; omega, ← List.drop_drop]
    rw [show ((enc y ++ l.flatMap enc).drop sz) = l.flatMap enc from by rw [← henc y, List.drop_left]]
    exact this

theorem rd_of {cs : List Value} {o : Nat} {i : TI} {L : List Value} (hd : (cs.drop o).take i.size = L) (hl : L.length = i.size) (hs : 0 < i.size) (h1 : (match i.desc with | .struct _ | .array _ _ => true | _ => Nat.beq i.size 1) = true) : rd cs o i = some (valOf i L) := by
  have hlen : o + i.size ≤ cs.length := by
    have := congrArg List.length hd
    simp only [List.length_take, List.length_drop] at this
    omega
  unfold rd valOf
  revert h1
  split
  · rename_i hx; intro _; simp only [hx]; rw [Nat.ble_eq_true_of_le hlen, cond_true, hd]
  · rename_i hx; intro _; simp only [hx]; rw [Nat.ble_eq_true_of_le hlen, cond_true, hd]
  · rename_i hn1 hn2
    intro h1
    have h1' : i.size = 1 := Nat.eq_of_beq_eq_true h1
    rw [h1'] at hd
    have : o < cs.length := by omega
    rw [List.drop_eq_getElem_cons this] at hd
    simp only [List.take_succ_cons, List.take_zero] at hd
    rw [← hd]
    simp [this]

/-- how elements are laid: i is their type's -/
structure EncOk (i : TI) (enc : α → List Value) : Prop where
  len : ∀ x, (enc x).length = i.size
  pos : 0 < i.size
  one : (match i.desc with | .struct _ | .array _ _ => true | _ => Nat.beq i.size 1) = true
  cell : ∀ x u, u ∈ enc x → u.oneCell' = true
  bytes : i.bytes ≤ 10000

theorem SlAt.ld {i : TI} (hi : EncOk i enc) (hs : i.size = sz) (y : SlAt e sz enc M h a cap l) {j : Nat} {x : α} (hj : l[j]? = some x) : ∃ b o, a = some ⟨b, o, none⟩ ∧ b ∉ M ∧ Ld h b (o + j * i.size) i (valOf i (enc x)) := by
  subst hs
  rcases y with ⟨_, _, rfl⟩ | ⟨b, o, cs, rfl, h2, h3, h4, h5, h6⟩
  · simp at hj
  · refine ⟨b, o, rfl, h2, cs, e, (0, 0), h3, rd_of (L := enc x) ?_ (hi.len x) hi.pos hi.one⟩
    have hjl := (List.getElem?_eq_some_iff.1 hj).1
    have hf := flat_at hi.len l j x hj
    rw [← h6, List.drop_take, List.take_take, List.drop_drop] at hf
    rw [← hf, Nat.min_eq_left]
    have : (j + 1) * i.size ≤ l.length * i.size := Nat.mul_le_mul_right _ hjl
    rw [Nat.add_mul] at this
    omega
theorem OwnAt.ld {i : TI} (hi : EncOk i enc) (hs : i.size = sz) (y : OwnAt e sz enc h a cap l blk) {j : Nat} {x : α} (hj : l[j]? = some x) : ∃ b, a = some ⟨b, 0, none⟩ ∧ blk = some b ∧ Ld h b (0 + j * i.size) i (valOf i (enc x)) := by
  rcases y with ⟨_, _, rfl, _⟩ | ⟨g, cs, rfl, rfl, h3, h4, h5, h6, h7⟩
  · simp at hj
  · obtain ⟨b, o, hb, _, hld⟩ := SlAt.ld (M := []) hi hs (.inr ⟨g, 0, cs, rfl, by simp, h3, h4, by omega, by simpa using h7⟩) hj
    injection hb with hb
    injection hb with h1 h2
    subst h1; subst h2
    exact ⟨g, rfl, rfl, hld⟩

theorem SlAt.cells (henc : ∀ x : α, (enc x).length = sz) {b o : Nat} (y : SlAt e sz enc M h (some ⟨b, o, none⟩) cap l) (w : World) (hw : w.heap = h) : ∀ j u, (l.flatMap enc)[j]? = some u → w.cell? ((⟨b, o, none⟩ : Addr).add j) = some u := by
  subst hw
  intro j u hu
  rcases y with ⟨h1, _⟩ | ⟨b', o', cs, h1, h2, h3, h4, h5, h6⟩
  · cases h1
  · cases h1
    rw [add_at]
    have hjl := (List.getElem?_eq_some_iff.1 hu).1
    rw [flat_len henc] at hjl
    rw [← h6, List.getElem?_take, if_pos hjl, List.getElem?_drop] at hu
    unfold World.cell?
    simp only [h3]
    simpa using hu
end

section
variable {L : Lay} {P : Program} {c : World} {ro : Option Nat} {n : Nat} {h : Hp} {Q : Exit → St → Hp → Prop} {α : Type}

theorem wp_append (hL : LayOk L P) {e0 : Option (List Nat)} {t ty e : Nat} {ti i : TI} (ht : L t = some ti) (htd : ti.desc = .slice e) (hi : L e = some i) {enc : α → List Value} (hen : EncOk i enc) {M : List Nat}
    {ops : Array Operand} {ρ : Operand → Value} {a a' : Option Addr} {cap m cap' : Nat} {l l' : List α} {blk : Option Nat} {tys : Array TypeId} (htys : tys = #[t, t])
    (has : ops.toList.map ρ = [.slice a l.length cap, .slice a' m cap']) (hm : m = l'.length) (ho : OwnAt e i.size enc h a cap l blk) (hx : SlAt e i.size enc M h a' cap' l') (hlen : l.length + l'.length < 1000000)
    {k : Value → X} (he0 : e0.isSome = true → blk = none ∨ cap < l.length + l'.length)
    (hk : ∀ h' a2 cap2 blk2, OwnAt e i.size enc h' a2 cap2 (l ++ l') blk2 → Chg blk.toList h h' → (blk2 = blk ∨ ∃ g, blk2 = some g ∧ h.size ≤ g) → (k (.slice a2 (l ++ l').length cap2)).wp c P ro n h' Q) :
    (X.sem e0 (Builtin.append_ tys ty (ops.map ρ)) k).wp c P ro n h Q := by
  subst hm
  subst htys
  intro w hw hc
  obtain ⟨x, hx1, hx2, hx3, hx4⟩ := hL.inf e i hi
  have hU : P.underlying t = some (.slice e) := by rw [hL.und t ti ht, htd]
  have hargs : ops.map ρ = #[.slice a l.length cap, .slice a' l'.length cap'] := by
    rw [← Array.toList_inj, Array.toList_map, has]
  rw [hargs]
  have hzs : i.zero.cells.size = i.size := hL.zsz e i hi
  have hfl := flat_len hen.len
  have hbig : (1000000 : Nat) ≤ maxLen := by decide
  rcases hx with ⟨rfl, rfl, rfl⟩ | ⟨b, o, cs, rfl, h2, h3, h4, h5, h6⟩
  · -- nothing is appended
    have hneed : l.length ≤ cap := by
      rcases ho with ⟨rfl, rfl, rfl, rfl⟩ | ⟨g, cs, rfl, rfl, g3, g4, g5⟩
      · simp
      · exact g4
    have hrun : (Builtin.append_ #[t, t] ty #[.slice a l.length cap, .slice none ([] : List α).length 0]).run P w = .ok (.slice a (l ++ []).length cap) w := by
      simp only [List.append_nil, List.length_nil]
      cases a with
      | none => simp [Builtin.append_, run_underlying hU, sizeOf, typeInfo, hx1, Builtin.lenOf, Builtin.firstCells, hneed]
      | some a => simp [Builtin.append_, run_underlying hU, sizeOf, typeInfo, hx1, Builtin.lenOf, Builtin.firstCells, hneed, storeCells]
    refine ⟨_, _, hrun, hc, Kp.of _ ?_, ?_⟩
    · rw [hw]; exact Chg.refl _ _
    · rw [hw]
      refine hk h a cap blk (by simpa using ho) (Chg.refl _ _) (.inl rfl)
  · have hcells := SlAt.cells (M := M) (e := e) (cap := cap') hen.len (.inr ⟨b, o, cs, rfl, h2, h3, h4, h5, h6⟩) w hw
    have hone : ∀ u ∈ l'.flatMap enc, u.oneCell' = true := by
      intro u hu
      obtain ⟨y, _, hy⟩ := List.mem_flatMap.1 hu
      exact hen.cell y u hy
    have hl' : (l'.flatMap enc).length = l'.length * x.size := by rw [hx3]; exact hfl l'
    have grown : ∀ (old : Nat), old < l.length + l'.length → ∀ xs : List Value, xs = l.flatMap enc →
        OwnAt e i.size enc (w.drew.alloc (.cells (xs.toArray ++ (l'.flatMap enc).toArray ++ Builtin.zeroCells i.zero.cells (grownCap w (l.length + l'.length) old e - (l.length + l'.length))) e)).heap (some ⟨w.heap.size, 0, none⟩)
          (grownCap w (l.length + l'.length) old e) (l ++ l') (some w.heap.size) := by
      intro old ho xs hxs
      subst hxs
      have hge := grownCap_ge w (l.length + l'.length) old e
      have hcm : grownCap w (l.length + l'.length) old e ≤ maxLen := grownCap_le_maxLen w _ old e (by omega)
      refine .inr ⟨_, _, rfl, rfl, World.alloc_heap_new w.drew _, by simpa using hge, hcm, ?_, ?_⟩
      · simp only [Array.size_append, List.size_toArray, size_zeroCells, hzs, hfl, ← Nat.add_mul]
        congr 1
        omega
      · simp only [Array.toList_append, List.append_assoc, List.flatMap_append]
        rw [← List.append_assoc, ← List.flatMap_append, ← hfl (l ++ l')]
        exact List.take_left
    have hchg : ∀ (ob : Obj) (M : List Nat), Chg M w.heap (w.drew.alloc ob).heap := fun ob M => New.chg (o := ob) ⟨rfl, rfl⟩ M
    rcases ho with ⟨rfl, rfl, rfl, rfl⟩ | ⟨g, cur, rfl, rfl, g3, g4, g5, g6, g7⟩
    · by_cases hz : l' = []
      · subst hz
        refine ⟨.slice none 0 0, w, ?_, hc, Kp.of _ ?_, ?_⟩
        · simp [Builtin.append_, run_underlying hU, sizeOf, typeInfo, hx1, Builtin.lenOf, Builtin.firstCells, loadCells, loadCellsFrom]
        · rw [hw]; exact Chg.refl _ _
        · rw [hw]
          exact hk h none 0 none (.inl ⟨rfl, rfl, rfl, rfl⟩) (Chg.refl _ _) (.inl rfl)
      · have hpos : 0 < l'.length := by cases l' with | nil => exact absurd rfl hz | cons _ _ => simp
        simp only [List.length_nil, Nat.zero_add] at hlen
        have hmul : l'.length * x.bytes ≤ 1000000 * 10000 := Nat.mul_le_mul (by omega) (by rw [hx4]; exact hen.bytes)
        have hr := run_append_nil (P := P) w t ty e x i.zero hU hx1 hx2 ⟨b, o, none⟩ l'.length cap' (l'.flatMap enc) hl' hcells hpos (by omega) (by omega)
        refine ⟨_, _, hr, ⟨hc.os, hc.tape, hc.output⟩, Kp.of _ (by rw [← hw]; exact hchg _ _), ?_⟩
        have hg := grown 0 (by simpa using hpos) [] rfl
        simp only [List.length_nil, Nat.zero_add, Array.empty_append] at hg
        exact hk _ _ _ _ hg (by rw [← hw]; exact hchg _ _) (.inr ⟨_, rfl, by rw [hw]; exact Nat.le_refl _⟩)
    · subst hw
      by_cases hroom : l.length + l'.length ≤ cap
      · have hfit : l.length * x.size + (l'.flatMap enc).length ≤ cur.size := by
          rw [hl', g6, hx3, ← Nat.add_mul]; exact Nat.mul_le_mul_right _ hroom
        have hr := run_append_room (P := P) w t ty e x hU hx1 g l.length cap cur g3 ⟨b, o, none⟩ l'.length cap' (l'.flatMap enc) hl' hcells hone hroom hfit
        have hu : Upd w.heap (w.setRow g (cur.toList.take (l.length * x.size) ++ l'.flatMap enc ++ cur.toList.drop (l.length * x.size + (l'.flatMap enc).length)).toArray).heap g
            (.cells (cur.toList.take (l.length * x.size) ++ l'.flatMap enc ++ cur.toList.drop (l.length * x.size + (l'.flatMap enc).length)).toArray e) :=
          ⟨by simp, setRow_heap w g cur _ e _ g3, fun k hk => setRow_other w g k _ (fun e => hk e)⟩
        refine ⟨_, _, hr, hc.setRow _ _, ?_, ?_⟩
        · cases e0 with
          | none => trivial
          | some D =>
            rcases he0 rfl with h0 | h0
            · cases h0
            · omega
        · rw [← List.length_append]
          refine hk _ _ _ (some g) (.inr ⟨g, _, rfl, rfl, hu.here, by simpa using hroom, g5, ?_, ?_⟩) (hu.chg (by simp)) (.inl rfl)
          · have h9 := hfl l'
            rw [hx3]
            simp only [List.size_toArray, List.length_append, List.length_take, List.length_drop, Array.length_toList]
            rw [hx3] at hfit
            omega
          · simp only [hx3, g7]
            rw [List.flatMap_append, ← hfl (l ++ l'), List.flatMap_append]
            exact List.take_left
      · have hown : SlAt e i.size enc [] w.heap (some ⟨g, 0, none⟩) cap l := .inr ⟨g, 0, cur, rfl, by simp, g3, g4, by omega, by simpa using g7⟩
        have hcells0 := SlAt.cells (M := []) hen.len hown w rfl
        have hmul : (l.length + l'.length) * x.bytes ≤ 1000000 * 10000 := Nat.mul_le_mul (by omega) (by rw [hx4]; exact hen.bytes)
        have hr := run_append_grow (P := P) w t ty e x i.zero hU hx1 hx2 ⟨g, 0, none⟩ l.length cap (l.flatMap enc) (by rw [hx3]; exact hfl l) hcells0 ⟨b, o, none⟩ l'.length cap' (l'.flatMap enc) hl' hcells (by omega) (by omega) (growslice_fits (by omega) (by omega))
        refine ⟨_, _, hr, ⟨hc.os, hc.tape, hc.output⟩, Kp.of _ (hchg _ _), ?_⟩
        rw [← List.length_append]
        exact hk _ _ _ _ (by simpa using grown cap (by omega) _ rfl) (hchg _ _) (.inr ⟨_, rfl, Nat.le_refl _⟩)
end
end Go.Xe
