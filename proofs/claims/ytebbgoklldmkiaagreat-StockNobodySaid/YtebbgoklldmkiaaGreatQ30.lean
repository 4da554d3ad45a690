/- Lemmas on the way: A state in a box that may be written to; closures that tell totals. Lists of pairs: what is behind a change. -/
import Derived.Test.YtebbgoklldmkiaaGreatQ29
import Derived.Test.YtebbgoklldmkiaaGreatQ12
namespace Go.Xe
open Go Go.Proofs
set_option maxRecDepth 20000
variable {c : World}
structure SC (M : List Nat) (sb : Nat) (h : Hp) (p : StP) (σ : StateR) : Prop where
  bd : Bd M h
  mem : sb ∈ M
  blk : StBlk h sb p
  ok : StOk M h p σ
section
variable {M M' : List Nat} {sb : Nat} {h h' : Hp} {p : StP} {σ : StateR}
theorem SC.ext (x : Chg [] h h') (y : SC M sb h p σ) : SC M sb h' p σ := ⟨y.bd.chg x, y.mem, x.of y.blk (by simp), y.ok.ext x⟩
theorem SC.chg (x : Chg M' h h') (hm : ∀ m, m ∈ M' → m ∈ M) (hs : sb ∉ M') (y : SC M sb h p σ) : SC M sb h' p σ := ⟨y.bd.chg x, y.mem, x.of y.blk hs, y.ok.chg x hm⟩
theorem SC.new {b : Nat} {o : Obj} (x : New h h' b o) (y : SC M sb h p σ) : SC (b :: M) sb h' p σ :=
  ⟨Bd.cons (y.bd.chg (x.chg [])) (by rw [x.size]; exact Nat.lt_succ_self _), List.mem_cons_of_mem _ y.mem, x.of y.blk, (y.ok.push x.le).ext (x.chg [])⟩
theorem SC.push {b : Nat} (hb : h.size ≤ b) (x : Chg [] h h') (hl : b < h'.size) (y : SC M sb h p σ) : SC (b :: M) sb h' p σ :=
  ⟨Bd.cons (y.bd.chg x) hl, List.mem_cons_of_mem _ y.mem, x.of y.blk (by simp), (y.ok.push hb).ext x⟩
theorem SC.sub (hm : ∀ m, m ∈ M' → m ∈ M) (hs : sb ∈ M') (y : SC M sb h p σ) : SC M' sb h p σ := ⟨fun k hk => y.bd k (hm k hk), hs, y.blk, y.ok.sub hm⟩
theorem SC.upd {b : Nat} {o : Obj} (x : Upd h h' b o) (hb : b ∈ M) (hs : sb ≠ b) (y : SC M sb h p σ) : SC M sb h' p σ :=
  y.chg (x.chg (M := [b]) (by simp)) (fun m hm => by rcases List.mem_singleton.1 hm with rfl; exact hb) (fun hm => hs (List.mem_singleton.1 hm))
theorem SC.ne (y : SC M sb h p σ) {b : Nat} (hb : h.size ≤ b) : sb ≠ b := by
  have := (Array.getElem?_eq_some_iff.1 y.blk).1
  omega
theorem SC.nin (y : SC M sb h p σ) {b : Nat} (hb : h.size ≤ b) : b ∉ [sb] := fun hm => y.ne hb (List.mem_singleton.1 hm).symm
theorem SC.nin' (y : SC M sb h p σ) {b : Nat} (hb : h.size ≤ b) : sb ∉ [b] := fun hm => y.ne hb (List.mem_singleton.1 hm)
theorem SC.notM (y : SC M sb h p σ) {b : Nat} (hb : h.size ≤ b) : b ∉ M := fun hm => by have := y.bd b hm; omega
theorem SC.step (y : SC M sb h' p σ) {h0 : Hp} (hc : Chg [sb] h0 h') {r : Int × Int × StateR} {e n : Int} (hr : r = (n, e, σ)) : StepOk M sb h0 r (.tuple #[.int .i64 n, .int .i64 e]) h' := by
  rw [hr]
  exact ⟨rfl, p, y.blk, y.ok, hc⟩

theorem keep_x (r : BaleR) (q : BalP) (y : SC M sb h p σ) (hq : BalOk M h r q) (hz : σ.bales.length < 900000) :
    Call c Tryz.prog 161 #[.pointer (some ⟨sb, 0, none⟩), vBale r q] h fun _ h' => ∃ p', SC M sb h' p' (keepS σ r) ∧ Chg [sb] h h' := by
  refine (keep_c (c := c) M sb p σ r q h y.bd y.mem y.blk y.ok hq hz).mono ?_
  rintro _ h' ⟨p', h1, h2, h3⟩
  exact ⟨p', ⟨y.bd.chg h3, y.mem, h1, h2⟩, h3⟩
theorem made_x (r : BaleR) (q : BalP) (y : SC M sb h p σ) (hq : BalOk M h r q) (hz : σ.bales.length < 900000) :
    Call c Tryz.prog 157 #[.pointer (some ⟨sb, 0, none⟩), vBale r q] h fun v h' => v = .int .i64 (σ.bales.length + 1) ∧ ∃ p', SC M sb h' p' (madeS σ r) ∧ Chg [sb] h h' := by
  refine (made_c (c := c) M sb p σ r q h y.bd y.mem y.blk y.ok hq hz).mono ?_
  rintro _ h' ⟨rfl, p', h1, h2, h3⟩
  exact ⟨rfl, p', ⟨y.bd.chg h3, y.mem, h1, h2⟩, h3⟩
theorem full_x (y : SC M sb h p σ) : Call c Tryz.prog 154 #[.pointer (some ⟨sb, 0, none⟩)] h fun v h' => v = .bool (decide (512 ≤ σ.bales.length)) ∧ Chg [] h h' := full_c M sb p σ h y.blk y.ok
theorem find_x (Ms : List Nat) (no : Int) (states : List Int) (a : Option Addr) (cap : Nat) (y : SC M sb h p σ) (hs : IntsAt Ms h a cap states) (hz : states.length < 900000) :
    Call c Tryz.prog 158 #[.pointer (some ⟨sb, 0, none⟩), .int .i64 no, .slice a states.length cap] h fun v h' => ∃ q, v = .tuple #[vBale (findF σ.bales no states).2 q, .int .i64 (findF σ.bales no states).1] ∧ BalOk M h' (findF σ.bales no states).2 q ∧ Chg [] h h' :=
  find2_c M Ms sb p σ no states a cap h y.blk y.ok hs hz
theorem tell_x (clip : Int) (f : Nat) (cv : List Value) (F : TotR → TotR) (y : SC M sb h p σ) (hz : σ.totals.length < 900000)
    (hf : ∀ tb h1 t, Chg [] h h1 → h.size ≤ tb → h1[tb]? = some (.cells (elTot t).toArray 119 (0, 0)) → Call c Tryz.prog f (Value.pointer (some ⟨tb, 0, none⟩) :: cv).toArray h1 fun _ h2 => h2[tb]? = some (.cells (elTot (F t)).toArray 119 (0, 0)) ∧ Chg [tb] h1 h2) :
    Call c Tryz.prog 155 #[.pointer (some ⟨sb, 0, none⟩), .int .i64 clip, .func (.func f) #[] cv.toArray] h fun _ h' => ∃ p', SC M sb h' p' (tellS σ clip F) ∧ Chg [sb] h h' := by
  refine (tell_c (c := c) M sb p σ clip f cv F h y.bd y.mem y.blk y.ok hz hf).mono ?_
  rintro _ h' ⟨p', h1, h2, h3⟩
  exact ⟨p', ⟨y.bd.chg h3, y.mem, h1, h2⟩, h3⟩
end
theorem tellAll_snoc (F : Int → TotR → TotR) : ∀ (l : List PartR) (p : PartR) (σ : StateR), tellAll F (l ++ [p]) σ = tellS (tellAll F l σ) p.clip (F p.grams)
  | [], _, _ => rfl
  | x :: l, p, σ => by simp only [List.cons_append, tellAll]; exact tellAll_snoc F l p _
theorem tellAll_take (F : Int → TotR → TotR) (l : List PartR) (j : Nat) (hj : j < l.length) (σ : StateR) : tellAll F (l.take (j + 1)) σ = tellS (tellAll F (l.take j) σ) l[j].clip (F l[j].grams) := by
  rw [List.take_add_one, List.getElem?_eq_getElem hj]
  exact tellAll_snoc F _ _ _
theorem tellAll_len (F : Int → TotR → TotR) : ∀ (l : List PartR) (σ : StateR), (tellAll F l σ).totals.length ≤ σ.totals.length + l.length
  | [], σ => Nat.le_refl _
  | p :: l, σ => by
    have h1 := tellAll_len F l (tellS σ p.clip (F p.grams))
    have h2 := length_insL (lt := ltI) (k := p.clip) (v := F p.grams (totOf σ.totals p.clip)) σ.totals
    simp only [tellAll, List.length_cons]
    unfold tellS at h1
    dsimp only at h1
    unfold tellS
    omega
theorem tellAll_bales (F : Int → TotR → TotR) : ∀ (l : List PartR) (σ : StateR), (tellAll F l σ).bales = σ.bales
  | [], σ => rfl
  | p :: l, σ => by simp only [tellAll]; rw [tellAll_bales F l]; rfl
theorem ne_of_ty {h : Hp} {a b : Nat} {ca cb : Array Value} {ta tb : Nat} {fa fb : Nat × Nat} (ha : h[a]? = some (.cells ca ta fa)) (hb : h[b]? = some (.cells cb tb fb)) (ht : ta ≠ tb) : a ≠ b := by
  intro e
  subst e
  rw [ha] at hb
  injection hb with hb
  injection hb with _ h2 _
  exact ht h2

theorem coreT_c (g : PartR) (gb tb : Nat) (t : TotR) (h : Hp) (hgb : h[gb]? = some (.cells (elPart g).toArray 129 (0, 0))) (htb : h[tb]? = some (.cells (elTot t).toArray 119 (0, 0))) :
    Call c Tryz.prog 169 (Value.pointer (some ⟨tb, 0, none⟩) :: [Value.pointer (some ⟨gb, 0, none⟩)]).toArray h fun _ h' => h'[tb]? = some (.cells (elTot (coreT g.grams t)).toArray 119 (0, 0)) ∧ Chg [tb] h h' := by
  refine call_of layOk 21 Tryz.func169 Tryz.ntmps169 rfl rfl rfl rfl ?_
  refine wp_ord layOk mixed [(0, 9)] [] (by kernel_rfl) ?_
  refine wp_load (ld_of htb rfl) ?_
  refine wp_load (ld_of hgb rfl) ?_
  refine wp_store htb (by rfl) ?_
  intro h1 hU1
  refine wp_ord layOk mixed [(0, 9)] [] (by kernel_rfl) ?_
  refine wp_load (ld_of hU1.here rfl) ?_
  refine wp_load (ld_of (hU1.of hgb (ne_of_ty hgb htb (by decide))) rfl) ?_
  refine wp_store hU1.here (by rfl) ?_
  intro h2 hU2
  exact wp_done ⟨rfl, hU2.here, (hU1.chg (by simp)).trans (hU2.chg (by simp))⟩
theorem wasteT_c (g : PartR) (gb tb : Nat) (t : TotR) (h : Hp) (hgb : h[gb]? = some (.cells (elPart g).toArray 129 (0, 0))) (htb : h[tb]? = some (.cells (elTot t).toArray 119 (0, 0))) :
    Call c Tryz.prog 172 (Value.pointer (some ⟨tb, 0, none⟩) :: [Value.pointer (some ⟨gb, 0, none⟩)]).toArray h fun _ h' => h'[tb]? = some (.cells (elTot (wasteT g.grams t)).toArray 119 (0, 0)) ∧ Chg [tb] h h' := by
  refine call_of layOk 21 Tryz.func172 Tryz.ntmps172 rfl rfl rfl rfl ?_
  refine wp_ord layOk mixed [(0, 9)] [] (by kernel_rfl) ?_
  refine wp_load (ld_of htb rfl) ?_
  refine wp_load (ld_of hgb rfl) ?_
  refine wp_store htb (by rfl) ?_
  intro h1 hU1
  refine wp_ord layOk mixed [(0, 9)] [] (by kernel_rfl) ?_
  refine wp_load (ld_of hU1.here rfl) ?_
  refine wp_load (ld_of (hU1.of hgb (ne_of_ty hgb htb (by decide))) rfl) ?_
  refine wp_store hU1.here (by rfl) ?_
  intro h2 hU2
  exact wp_done ⟨rfl, hU2.here, (hU1.chg (by simp)).trans (hU2.chg (by simp))⟩
theorem sendT_c (g : PartR) (gb tb : Nat) (t : TotR) (h : Hp) (hgb : h[gb]? = some (.cells (elPart g).toArray 129 (0, 0))) (htb : h[tb]? = some (.cells (elTot t).toArray 119 (0, 0))) :
    Call c Tryz.prog 177 (Value.pointer (some ⟨tb, 0, none⟩) :: [Value.pointer (some ⟨gb, 0, none⟩)]).toArray h fun _ h' => h'[tb]? = some (.cells (elTot (sendT g.grams t)).toArray 119 (0, 0)) ∧ Chg [tb] h h' := by
  refine call_of layOk 21 Tryz.func177 Tryz.ntmps177 rfl rfl rfl rfl ?_
  refine wp_ord layOk mixed [(0, 9)] [] (by kernel_rfl) ?_
  refine wp_load (ld_of htb rfl) ?_
  refine wp_load (ld_of hgb rfl) ?_
  refine wp_store htb (by rfl) ?_
  intro h1 hU1
  refine wp_ord layOk mixed [(0, 9)] [] (by kernel_rfl) ?_
  refine wp_load (ld_of hU1.here rfl) ?_
  refine wp_load (ld_of (hU1.of hgb (ne_of_ty hgb htb (by decide))) rfl) ?_
  refine wp_store hU1.here (by rfl) ?_
  intro h2 hU2
  exact wp_done ⟨rfl, hU2.here, (hU1.chg (by simp)).trans (hU2.chg (by simp))⟩
theorem weighT_c (g : Int) (gb tb : Nat) (t : TotR) (h : Hp) (hgb : h[gb]? = some (.cells #[.int .i64 g] 3 (0, 0))) (htb : h[tb]? = some (.cells (elTot t).toArray 119 (0, 0))) :
    Call c Tryz.prog 170 (Value.pointer (some ⟨tb, 0, none⟩) :: [Value.pointer (some ⟨gb, 0, none⟩)]).toArray h fun _ h' => h'[tb]? = some (.cells (elTot (weighT g t)).toArray 119 (0, 0)) ∧ Chg [tb] h h' := by
  refine call_of layOk 19 Tryz.func170 Tryz.ntmps170 rfl rfl rfl rfl ?_
  refine wp_ord layOk mixed [(0, 8)] [] (by kernel_rfl) ?_
  refine wp_load (ld_of htb rfl) ?_
  refine wp_load (ld_of hgb rfl) ?_
  refine wp_store htb (by rfl) ?_
  intro h1 hU1
  refine wp_ord layOk mixed [(0, 8)] [] (by kernel_rfl) ?_
  refine wp_load (ld_of hU1.here rfl) ?_
  refine wp_load (ld_of (hU1.of hgb (ne_of_ty hgb htb (by decide))) rfl) ?_
  refine wp_store hU1.here (by rfl) ?_
  intro h2 hU2
  exact wp_done ⟨rfl, hU2.here, (hU1.chg (by simp)).trans (hU2.chg (by simp))⟩

theorem turn_x (M : List Nat) (sb : Nat) (p : StP) (σ : StateR) (no x z : Int) (h : Hp) (y : SC M sb h p σ) (hz : SizeW σ) :
    Call c Tryz.prog 171 #[.pointer (some ⟨sb, 0, none⟩), .int .i64 no, .int .i64 x, .int .i64 z] h fun v h' => v = .tuple #[.int .i64 (turnF σ no x z).1, .int .i64 (turnF σ no x z).2.1] ∧ ∃ p', SC M sb h' p' (turnF σ no x z).2.2 ∧ Chg [sb] h h' := by
  refine call_of layOk 28 Tryz.func171 Tryz.ntmps171 rfl rfl rfl rfl ?_
  refine wp_new ?_
  intro bi h2 hN2
  have hfind := find_x (c := c) [] no [x] (some ⟨bi, 0, none⟩) 1 (y.ext (hN2.chg [])) (.inr ⟨bi, 0, _, rfl, by simp, hN2.here, Nat.le_refl _, Nat.le_refl _, rfl⟩) (by simp)
  refine wp_call hfind ?_
  rintro _ h3 ⟨q, rfl, hq3, hc3⟩
  have hok := findF_ok (bs := σ.bales) (no := no) (states := [x])
  have hc03 : Chg [] h h3 := (hN2.chg []).trans hc3
  have hsp : turnF σ no x z = if (findF σ.bales no [x]).1 ≠ 0 then (0, (findF σ.bales no [x]).1, σ) else (0, 0, keepS σ { (findF σ.bales no [x]).2 with state := z }) := rfl
  revert hsp hok hq3
  generalize findF σ.bales no [x] = f
  obtain ⟨e, r⟩ := f
  dsimp only
  intro hq3 hok hsp
  refine wp_new ?_
  intro b6 h4 hN4
  refine wp_store hN4.here (by rfl) ?_
  intro h5 hU5
  have y3 := y.ext hc03
  have y5 := (y3.new hN4).upd hU5 (by simp) (y3.ne hN4.le)
  have hc5 := hU5.chgGe (hN4.chg []) hN4.le
  refine wp_br (fun g1 => ?_) (fun g1 => ?_)
  · have d1 : (e != 0) = true := g1
    have d1' : e ≠ 0 := by simpa using d1
    rw [if_pos d1'] at hsp
    refine wp_done ⟨rfl, ?_⟩
    show Value.tuple #[.int .i64 0, .int .i64 e] = _ ∧ _
    rw [hsp]
    exact ⟨rfl, p, y.ext (hc03.trans hc5), (hc03.trans hc5).mono (by simp)⟩
  · have d1 : (e != 0) = false := g1
    have d1' : e = 0 := by simpa using d1
    rw [if_neg (by simpa using d1')] at hsp
    have hq5 : BalOk (b6 :: M) h5 r q := (hq3.push hN4.le).ext hc5
    refine wp_store hU5.here (by rfl) ?_
    intro h6 hU6
    have y6 := y5.upd hU6 (by simp) (y3.ne hN4.le)
    have hq6 : BalOk (b6 :: M) h6 r q := hq5.chg (hU6.chg (M := [b6]) (by simp)) (fun k hk => by rw [List.mem_singleton] at hk; simp [hk])
    refine wp_load (v := vBale { r with state := z } q) (ld_of hU6.here rfl) ?_
    have hc6 : Chg [] h h6 := hU6.chgGe (hc03.trans hc5) (Nat.le_trans hc03.size hN4.le)
    refine wp_call (keep_x { r with state := z } q y6 ⟨hq6.1, hq6.2⟩ (by have := hz.bales; omega)) ?_
    rintro _ h7 ⟨p', y7, hc7⟩
    refine wp_done ⟨rfl, ?_⟩
    show Value.tuple #[.int .i64 0, .int .i64 0] = _ ∧ _
    rw [hsp]
    exact ⟨rfl, p', y7.sub (fun k hk => List.mem_cons_of_mem _ hk) y.mem, (hc6.mono (by simp)).trans hc7⟩
theorem hold_x (M : List Nat) (sb : Nat) (p : StP) (σ : StateR) (m : MoveR) (a : Option Addr) (cap : Nat) (h : Hp) (y : SC M sb h p σ) (hz : SizeW σ) :
    Call c Tryz.prog 118 #[.pointer (some ⟨sb, 0, none⟩), vMove m a cap] h (StepOk M sb h (turnF σ m.no 0 2)) := by
  refine call_of layOk 12 Tryz.func118 Tryz.ntmps118 rfl rfl rfl rfl ?_
  refine wp_new ?_
  intro mb h1 hN
  refine wp_load (ld_of hN.here rfl) ?_
  refine wp_call (turn_x M sb p σ m.no 0 2 h1 (y.ext (hN.chg [])) hz) ?_
  rintro _ h2 ⟨rfl, p', y2, hc2⟩
  exact wp_done ⟨rfl, y2.step ((hN.chg _).trans hc2) rfl⟩
theorem release_x (M : List Nat) (sb : Nat) (p : StP) (σ : StateR) (m : MoveR) (a : Option Addr) (cap : Nat) (h : Hp) (y : SC M sb h p σ) (hz : SizeW σ) :
    Call c Tryz.prog 119 #[.pointer (some ⟨sb, 0, none⟩), vMove m a cap] h (StepOk M sb h (turnF σ m.no 2 0)) := by
  refine call_of layOk 12 Tryz.func119 Tryz.ntmps119 rfl rfl rfl rfl ?_
  refine wp_new ?_
  intro mb h1 hN
  refine wp_load (ld_of hN.here rfl) ?_
  refine wp_call (turn_x M sb p σ m.no 2 0 h1 (y.ext (hN.chg [])) hz) ?_
  rintro _ h2 ⟨rfl, p', y2, hc2⟩
  exact wp_done ⟨rfl, y2.step ((hN.chg _).trans hc2) rfl⟩
end Go.Xe
namespace Go.Xe
open Go
section
variable {K V : Type} {lt eq : K → K → Bool}
theorem get_ins_same (hlo : LO lt eq) (k : K) (v : V) : ∀ xs : List (K × V), getL eq k (insL lt k v xs) = some v
  | [] => by simp [insL, getL, (hlo.eq k k).2 rfl]
  | (a, b) :: xs => by
    simp only [insL]
    split
    · simp [getL, (hlo.eq k k).2 rfl]
    · split
      · rename_i h2
        simp only [getL, (hlo.ne h2).1, Bool.false_eq_true, if_false]
        exact get_ins_same hlo k v xs
      · simp [getL, (hlo.eq k k).2 rfl]
theorem get_ins_other (hlo : LO lt eq) {k k' : K} (v : V) (hk : k' ≠ k) : ∀ xs : List (K × V), getL eq k' (insL lt k v xs) = getL eq k' xs
  | [] => by
    have : eq k k' = false := by
      cases hx : eq k k' with
      | false => rfl
      | true => exact absurd ((hlo.eq _ _).1 hx).symm hk
    simp [insL, getL, this]
  | (a, b) :: xs => by
    have hkk : eq k k' = false := by
      cases hx : eq k k' with
      | false => rfl
      | true => exact absurd ((hlo.eq _ _).1 hx).symm hk
    simp only [insL]
    split
    · simp only [getL, hkk, Bool.false_eq_true, if_false]
    · split
      · simp only [getL]
        rw [get_ins_other hlo v hk xs]
      · rename_i h1 h2
        have : k = a := hlo.tri k a (by simpa using h1) (by simpa using h2)
        subst this
        simp only [getL, hkk, Bool.false_eq_true, if_false]
theorem getL_mem {k : K} {v : V} (hlo : LO lt eq) : ∀ {xs : List (K × V)}, getL eq k xs = some v → (k, v) ∈ xs
  | [], h => by simp [getL] at h
  | (a, b) :: xs, h => by
    simp only [getL] at h
    split at h
    · rename_i he
      have := (hlo.eq _ _).1 he
      subst this
      cases h
      exact List.mem_cons_self ..
    · exact List.mem_cons_of_mem _ (getL_mem hlo h)
theorem mem_getL (hlo : LO lt eq) {k : K} {v : V} : ∀ {xs : List (K × V)}, SortedK lt xs → (k, v) ∈ xs → getL eq k xs = some v
  | [], _, h => by cases h
  | (a, b) :: xs, hs, h => by
    simp only [getL]
    rcases List.mem_cons.1 h with h | h
    · cases h
      rw [if_pos ((hlo.eq _ _).2 rfl)]
    · have := (List.pairwise_cons.1 hs).1 _ h
      rw [(hlo.ne this).1]
      exact mem_getL hlo (List.pairwise_cons.1 hs).2 h
end
end Go.Xe
