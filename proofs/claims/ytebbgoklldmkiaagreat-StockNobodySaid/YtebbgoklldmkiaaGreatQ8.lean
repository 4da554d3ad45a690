/- Lemmas on the way: The moves waste, core, weigh. The move weigh. several: some free bales of one kind, each named once. The move lot. The walks of the tree's functions at II: what each gives, for every tree. The walks of Map's methods at II, by the list of the pairs. A range over a map at II. -/
import Derived.Test.YtebbgoklldmkiaaGreatQ7
import Derived.Test.YtebbgoklldmkiaaGreatQ6
import Derived.Test.YtebbgoklldmkiaaGreatQ4
namespace Go.Xe
open Go Go.Proofs
set_option maxRecDepth 20000
variable {c : World}
theorem wasteF_eq (σ : StateR) (m : MoveR) : wasteF σ m = if (turnF σ m.no 0 3).2.1 ≠ 0 then (0, (turnF σ m.no 0 3).2.1, σ) else (0, 0, tellAll wasteT (((getL eqI m.no (turnF σ m.no 0 3).2.2.bales).map (·.parts)).getD []) (turnF σ m.no 0 3).2.2) := rfl
theorem turnF_err {σ : StateR} {no x z : Int} (h : (turnF σ no x z).2.1 ≠ 0) : (turnF σ no x z).2.2 = σ := by
  unfold turnF at *
  dsimp only at *
  split at h
  · rename_i h1; rw [if_pos h1]
  · exact absurd rfl h
theorem turnF_get {σ : StateR} {no x z : Int} (hk : KeyW σ no) (h : (turnF σ no x z).2.1 = 0) : ∃ r, getL eqI no σ.bales = some r ∧ getL eqI no (turnF σ no x z).2.2.bales = some { r with state := z } ∧ (turnF σ no x z).2.2 = keepS σ { r with state := z } ∧ r.state = x := by
  unfold turnF at *
  dsimp only at *
  split at h
  · rename_i h1; exact absurd h h1
  · rename_i h1
    rw [if_neg h1]
    obtain ⟨h2, h3⟩ := findF_ok (show (findF σ.bales no [x]).1 = 0 from by simpa using h1)
    refine ⟨_, h2, ?_, rfl, by simpa using h3⟩
    have := hk _ h2
    unfold keepS
    dsimp only
    rw [this]
    exact get_ins_same loI _ _ _
theorem waste_x (M : List Nat) (sb : Nat) (p : StP) (σ : StateR) (m : MoveR) (a : Option Addr) (cap : Nat) (h : Hp) (y : SC M sb h p σ) (hz : SizeW σ) (hk : KeyW σ m.no) (hw : FindW σ m.no) :
    Call c Tryz.prog 120 #[.pointer (some ⟨sb, 0, none⟩), vMove m a cap] h (StepOk M sb h (wasteF σ m)) := by
  have hwf := wasteF_eq σ m
  have hte := turnF_err (σ := σ) (no := m.no) (x := 0) (z := 3)
  have htg := turnF_get (x := 0) (z := 3) hk
  have htu := fun h1 (y1 : SC M sb h1 p σ) => turn_x (c := c) M sb p σ m.no 0 3 h1 y1 hz
  revert hwf hte htg htu
  generalize turnF σ m.no 0 3 = t
  obtain ⟨n, e, σ1⟩ := t
  dsimp only
  intro hwf hte htg htu
  refine call_of layOk 47 Tryz.func120 Tryz.ntmps120 rfl rfl rfl rfl ?_
  refine wp_new ?_
  intro mb h1 hN
  refine wp_load (ld_of hN.here rfl) ?_
  refine wp_call (htu h1 (y.ext (hN.chg []))) ?_
  rintro _ h2 ⟨rfl, p2, y2, hc2⟩
  have hc02 : Chg [sb] h h2 := (hN.chg _).trans hc2
  refine wp_br (fun g1 => ?_) (fun g1 => ?_)
  · have d1 : (e != 0) = true := g1
    have d1' : e ≠ 0 := by simpa using d1
    rw [if_pos d1'] at hwf
    have := hte d1'
    subst this
    exact wp_done ⟨rfl, y2.step hc02 hwf⟩
  · have d1 : (e != 0) = false := g1
    have d1' : e = 0 := by simpa using d1
    rw [if_neg (by simpa using d1')] at hwf
    obtain ⟨r, hg, hg1, hσ1, hst⟩ := htg d1'
    have hW := hw r hg
    rw [hg1] at hwf
    change wasteF σ m = (0, 0, tellAll wasteT r.parts σ1) at hwf
    have hmb2 := hc2.of hN.here (y.nin hN.le)
    obtain ⟨ys, hm, ha⟩ := y2.ok.bales
    refine wp_ord layOk mixed [(0, 11)] [] (by kernel_rfl) ?_
    refine wp_load (ld_of y2.blk rfl) ?_
    refine wp_load (ld_of hmb2 rfl) ?_
    refine wp_call (BI.get_c M ys m.no p2.b h2 hm) ?_
    rintro _ h3 ⟨rfl, hc3⟩
    rcases ha.get eqI m.no with ⟨e1, e2⟩ | ⟨bk, r', e1, e2, hb⟩
    · rw [hg1] at e2; cases e2
    · rw [hg1] at e2
      cases e2
      obtain ⟨q, hbM, hbb, hq⟩ := hb
      have hq3 := hq.ext hc3
      have hbb3 := hc3.of hbb (by simp)
      have y3 := y2.ext hc3
      have hc03 : Chg [sb] h h3 := hc02.trans (hc3.mono (by simp))
      have hz3 : σ1.totals.length = σ.totals.length := by rw [hσ1]; rfl
      unfold BI.getV
      rw [e1]
      refine wp_load (v := .slice q.pa r.parts.length q.pc) (ld_of hbb3 rfl) ?_
      have hsbM : sb ∈ M := y.mem
      have hpa : PartsAt M h3 q.pa q.pc r.parts := hq3.1
      refine wp_loopK layOk [37, 11] 38 46 rfl [0, 35, 36] [.pointer (some ⟨sb, 0, none⟩), .slice q.pa r.parts.length q.pc, .int .i64 r.parts.length] rfl [] rfl
        (fun k vals h' => ∃ (j : Nat) (u : Value), vals = [.int .i64 j, u] ∧ j + k = r.parts.length ∧ Chg [sb] h3 h' ∧ ∃ p', SC M sb h' p' (tellAll wasteT (r.parts.take j) σ1)) r.parts.length ⟨0, undef, rfl, by omega, Chg.refl _ _, p2, y3⟩ ?_
      rintro ρ0 k g vals h4 - ⟨j, u, rfl, hjk, hc4, p4, y4⟩
      refine wp_br (fun g3 => ?_) (fun g3 => ?_)
      · have hj' : (j : Int) < (r.parts.length : Int) := of_decide_eq_true g3
        clear g3
        have hj : j < r.parts.length := by omega
        have hje := List.getElem?_eq_getElem hj
        have hfew : r.parts.length < 1000 := Nat.lt_of_lt_of_le hW.few (by decide)
        have hpa4 : PartsAt M h4 q.pa q.pc r.parts := hpa.chg hc4 (fun m hm => by rw [List.mem_singleton] at hm; rw [hm]; exact hsbM)
        obtain ⟨b, o, hqa⟩ := hpa4.ptr (i := ti129) hj
        rw [hqa] at hpa4 ⊢
        refine wp_chk ⟨by omega, by omega⟩ ?_
        refine wp_load (hpa4.ld1 (i := ti129) enPart hje) ?_
        refine wp_new ?_
        intro bx h5 hN5
        refine wp_store hN5.here (by rfl) ?_
        intro h6 hU6
        have hc6 := hU6.chgGe (hN5.chg []) hN5.le
        have hl := tellAll_len wasteT (r.parts.take j) σ1
        rw [List.length_take] at hl
        refine wp_load (v := .int .i64 r.parts[j].clip) (ld_of hU6.here rfl) ?_
        refine wp_call (tell_x (y := y4.ext hc6) r.parts[j].clip 172 [.pointer (some ⟨bx, 0, none⟩)] (wasteT r.parts[j].grams) (by have := hz.totals; omega) (fun tb h7 t hc7 hle ht =>
          wasteT_c r.parts[j] bx tb t h7 (hc7.of hU6.here (by simp)) ht)) ?_
        rintro _ h7 ⟨p7, y7, hc7⟩
        rw [← tellAll_take] at y7
        refine wp_done ⟨k - 1, by omega, j + 1, .pointer (some ⟨bx, 0, none⟩), ?_, by omega, (hc4.trans (hc6.mono (by simp))).trans hc7, p7, y7⟩
        exact congrArg (fun z => [Value.int .i64 z, .pointer (some ⟨bx, 0, none⟩)]) (by rw [w64 (by omega) (by omega)]; omega)
      · have hj' : ¬ ((j : Int) < (r.parts.length : Int)) := of_decide_eq_false g3
        clear g3
        rw [List.take_of_length_le (by omega)] at y4
        have hfin := y4.step (hc03.trans hc4) hwf
        refine wp_done ?_
        show X.wp _ _ _ _ _ _ _
        exact wp_done ⟨rfl, hfin⟩

theorem core_x (M : List Nat) (sb : Nat) (p : StP) (σ : StateR) (m : MoveR) (a : Option Addr) (cap : Nat) (h : Hp) (y : SC M sb h p σ) (hz : SizeW σ) (hw : FindW σ m.no) :
    Call c Tryz.prog 116 #[.pointer (some ⟨sb, 0, none⟩), vMove m a cap] h (StepOk M sb h (coreF σ m)) := by
  refine call_of layOk 64 Tryz.func116 Tryz.ntmps116 rfl rfl rfl rfl ?_
  refine wp_new ?_
  intro mb h1 hN
  have hc1 := hN.chg []
  refine wp_load (ld_of hN.here rfl) ?_
  refine wp_new ?_
  intro bi h2 hN2
  have hc2 := hc1.trans (hN2.chg [])
  have hfind := find_x (c := c) [] m.no [0, 1] (some ⟨bi, 0, none⟩) 2 (y.ext hc2) (.inr ⟨bi, 0, _, rfl, by simp, hN2.here, Nat.le_refl _, Nat.le_refl _, rfl⟩) (by simp)
  refine wp_call hfind ?_
  rintro _ h3 ⟨q, rfl, hq3, hc3⟩
  have hok := findF_ok (bs := σ.bales) (no := m.no) (states := [0, 1])
  have hspl : coreF σ m = coreF σ m := rfl
  conv at hspl => rhs; unfold coreF
  revert hspl hok hq3
  generalize findF σ.bales m.no [0, 1] = f
  obtain ⟨e, r⟩ := f
  dsimp only
  intro hq3 hok hspl
  have hmb3 := hc3.of (hN2.of hN.here) (by simp)
  refine wp_new ?_
  intro b6 h4 hN4
  refine wp_store hN4.here (by rfl) ?_
  intro h5 hU5
  have hc03 := hc2.trans hc3
  have y3 := y.ext hc03
  have hc35 : Chg [] h3 h5 := hU5.chgGe (hN4.chg []) hN4.le
  have hc05 := hc03.trans hc35
  have hmb5 := hc35.of hmb3 (by simp)
  have y5 := (y3.new hN4).upd hU5 (by simp) (y3.ne hN4.le)
  refine wp_br (fun g1 => ?_) (fun g1 => ?_)
  · have d1 : (e != 0) = true := g1
    have d1' : e ≠ 0 := by simpa using d1
    rw [if_pos d1'] at hspl
    exact wp_done ⟨rfl, (y.ext hc05).step (hc05.mono (by simp)) hspl⟩
  · have d1 : (e != 0) = false := g1
    have d1' : e = 0 := by simpa using d1
    obtain ⟨hg, hst⟩ := hok d1'
    have hW := hw r hg
    have hfew : r.parts.length < 1000 := Nat.lt_of_lt_of_le hW.few (by decide)
    have hgr := hW.grams
    have hle6 : h.size ≤ b6 := Nat.le_trans hc03.size hN4.le
    have hq5 : BalOk (b6 :: M) h5 r q := (hq3.push hN4.le).ext hc35
    rw [if_neg (by simpa using d1')] at hspl
    refine wp_load (ld_of hmb5 rfl) ?_
    refine wp_br (fun g2 => ?_) (fun g2 => ?_)
    · have d2 : m.grams < 1 := of_decide_eq_true g2
      rw [if_pos d2] at hspl
      exact wp_done ⟨rfl, (y.ext hc05).step (hc05.mono (by simp)) hspl⟩
    · have d2 : ¬ m.grams < 1 := of_decide_eq_false g2
      rw [if_neg d2] at hspl
      refine wp_load (ld_of hmb5 rfl) ?_
      refine wp_load (v := .int .i64 r.grams) (ld_of hU5.here rfl) ?_
      refine wp_br (fun g3 => ?_) (fun g3 => ?_)
      · have d3 : m.grams ≥ r.grams := of_decide_eq_true g3
        rw [if_pos d3] at hspl
        exact wp_done ⟨rfl, (y.ext hc05).step (hc05.mono (by simp)) hspl⟩
      · have d3 : ¬ m.grams ≥ r.grams := of_decide_eq_false g3
        rw [if_neg d3] at hspl
        have hpo := portion_c (c := c) (b6 :: M) m.grams r.parts q.pa q.pc h5 hq5.1 hW.few (by omega) (by omega) hW.parts hW.sum
        have hpl := portionL_len m.grams r.parts
        have hpb := portion_bd m.grams r.parts (by omega) (by omega) hW.parts hW.sum (by omega)
        revert hspl hpo hpl hpb
        generalize portionL m.grams r.parts = tk
        intro hspl hpo hpl hpb
        refine wp_load (ld_of hmb5 rfl) ?_
        refine wp_load (v := .slice q.pa r.parts.length q.pc) (ld_of hU5.here rfl) ?_
        refine wp_call hpo ?_
        rintro _ h7 ⟨a8, cap8, blk8, rfl, ho8, hc7, hf8⟩
        have hc07 := hc05.trans hc7
        have hb7 := hc7.of hU5.here (by simp)
        have hmb7 := hc7.of hmb5 (by simp)
        have hq7 : BalOk (b6 :: M) h7 r q := hq5.ext hc7
        have y7 := y5.ext hc7
        have hsM : sb ∈ b6 :: M := y5.mem
        have hmbs : mb ∉ [sb] := y.nin hN.le
        have hb6s : b6 ∉ [sb] := y.nin hle6
        have hs8 : ∀ g, blk8 = some g → g ∉ [sb] := fun g hg => y.nin (Nat.le_trans hc05.size (hf8 g hg))
        refine wp_loopK layOk [40, 10] 41 49 rfl [0, 3, 6, 8, 38, 39] [.pointer (some ⟨sb, 0, none⟩), .pointer (some ⟨mb, 0, none⟩), .pointer (some ⟨b6, 0, none⟩), .slice a8 tk.length cap8, .slice a8 tk.length cap8, .int .i64 tk.length] rfl [] rfl
          (fun k vals h' => ∃ (j : Nat) (u : Value), vals = [.int .i64 j, u] ∧ j + k = tk.length ∧ Chg [sb] h7 h' ∧ ∃ p', SC (b6 :: M) sb h' p' (tellAll coreT (tk.take j) σ)) tk.length ⟨0, undef, rfl, by omega, Chg.refl _ _, p, y7⟩ ?_
        rintro ρ0 k g vals h8 - ⟨j, u, rfl, hjk, hc8, p8, y8⟩
        have ho8' : PartsOwn h8 a8 cap8 tk blk8 := ho8.chg hc8 hs8
        refine wp_br (fun g4 => ?_) (fun g4 => ?_)
        · have hj' : (j : Int) < (tk.length : Int) := of_decide_eq_true g4
          clear g4
          have hj : j < tk.length := by omega
          have hje := List.getElem?_eq_getElem hj
          obtain ⟨b, hqa, hbb⟩ := ho8'.ptr (i := ti129) hj
          rw [hqa] at ho8' ⊢
          refine wp_chk ⟨by omega, by omega⟩ ?_
          refine wp_load (ho8'.ld1 (i := ti129) enPart hje) ?_
          refine wp_new ?_
          intro bx h9 hN9
          refine wp_store hN9.here (by rfl) ?_
          intro h10 hU10
          have hc10 := hU10.chgGe (hN9.chg []) hN9.le
          have hl := tellAll_len coreT (tk.take j) σ
          rw [List.length_take] at hl
          refine wp_load (v := .int .i64 tk[j].clip) (ld_of hU10.here rfl) ?_
          refine wp_call (tell_x (y := y8.ext hc10) tk[j].clip 169 [.pointer (some ⟨bx, 0, none⟩)] (coreT tk[j].grams) (by have := hz.totals; omega) (fun tb h7 t hc7 hle ht =>
            coreT_c tk[j] bx tb t h7 (hc7.of hU10.here (by simp)) ht)) ?_
          rintro _ h11 ⟨p11, y11, hc11⟩
          rw [← tellAll_take] at y11
          refine wp_done ⟨k - 1, by omega, j + 1, .pointer (some ⟨bx, 0, none⟩), ?_, by omega, (hc8.trans (hc10.mono (by simp))).trans hc11, p11, y11⟩
          exact congrArg (fun z => [Value.int .i64 z, .pointer (some ⟨bx, 0, none⟩)]) (by rw [w64 (by omega) (by omega)]; omega)
        · have hj' : ¬ ((j : Int) < (tk.length : Int)) := of_decide_eq_false g4
          clear g4
          rw [List.take_of_length_le (by omega)] at y8
          have hb8 := hc8.of hb7 hb6s
          have hmb8 := hc8.of hmb7 hmbs
          have hc08 : Chg [sb] h h8 := (hc07.mono (by simp)).trans hc8
          have hsm : ∀ k, k ∈ [sb] → k ∈ b6 :: M := fun k hk => by rw [List.mem_singleton] at hk; rw [hk]; exact hsM
          have hq8 : BalOk (b6 :: M) h8 r q := hq7.chg hc8 hsm
          have hless := less_c (c := c) [] r.parts tk q.pa a8 q.pc cap8 h8 (hq8.1.sub (by simp)) (ho8'.sl (by simp)) hpl (by omega) hW.parts hpb
          have hzl : (tellAll coreT tk σ).bales.length < 900000 := by rw [tellAll_bales]; have := hz.bales; omega
          have hwr : IntKind.i64.wrap (r.grams - m.grams) = r.grams - m.grams := w64 (by omega) (by omega)
          have hb68 : h8.size > b6 := (Array.getElem?_eq_some_iff.1 hb8).1
          refine wp_done ?_
          show X.wp _ _ _ _ _ _ _
          refine wp_load (v := .slice q.pa r.parts.length q.pc) (ld_of hb8 rfl) ?_
          refine wp_call hless ?_
          rintro _ h9 ⟨a9, cap9, blk9, rfl, ho9, hc9, hf9⟩
          have hb9 := hc9.of hb8 (by simp)
          have hmb9 := hc9.of hmb8 (by simp)
          have hmbb : mb ≠ b6 := by
            have := (Array.getElem?_eq_some_iff.1 hmb3).1
            have := hN4.le
            omega
          have y9 := y8.ext hc9
          refine wp_store hb9 (by rfl) ?_
          intro h10 hU10
          refine wp_load (v := .int .i64 r.grams) (ld_of hU10.here rfl) ?_
          refine wp_load (ld_of (hU10.of hmb9 hmbb) rfl) ?_
          refine wp_store hU10.here (by rfl) ?_
          intro h11 hU11
          have y11 := (y9.upd hU10 (by simp) (y3.ne hN4.le)).upd hU11 (by simp) (y3.ne hN4.le)
          have hx : Chg [b6] h9 h11 := (hU10.chg (by simp)).trans (hU11.chg (by simp))
          have hb6n9 : ∀ g, blk9 = some g → g ∉ [b6] := fun g hg hm => by have := hf9 g hg; rw [List.mem_singleton] at hm; omega
          have hq11 : BalOk (b6 :: M) h11 { r with parts := lessL r.parts tk, grams := r.grams - m.grams } { q with pa := a9, pc := cap9 } :=
            ⟨(ho9.chg hx hb6n9).sl (hf9.notin y8.bd), (hq8.2.ext hc9).chg hx (fun k hk => by rw [List.mem_singleton] at hk; simp [hk])⟩
          have hcc : Chg [sb] h h11 := by
            refine (hc08.trans (hc9.mono (by simp))).fresh hx (fun k hk => .inr ?_)
            rw [List.mem_singleton] at hk
            rw [hk]
            exact hle6
          refine wp_load (v := vBale { r with parts := lessL r.parts tk, grams := IntKind.i64.wrap (r.grams - m.grams) } { q with pa := a9, pc := cap9 }) (ld_of hU11.here rfl) ?_
          rw [hwr]
          refine wp_call (keep_x _ _ y11 hq11 hzl) ?_
          rintro _ h12 ⟨p12, y12, hc12⟩
          have hfin := (y12.sub (fun k hk => List.mem_cons_of_mem _ hk) y.mem).step (hcc.trans hc12) hspl
          exact wp_done ⟨rfl, hfin⟩
end Go.Xe
namespace Go.Xe
open Go Go.Proofs
set_option maxRecDepth 20000
variable {c : World}
theorem weigh_x (M : List Nat) (sb : Nat) (p : StP) (σ : StateR) (m : MoveR) (a : Option Addr) (cap : Nat) (h : Hp) (y : SC M sb h p σ) (hz : SizeW σ) (hw : FindW σ m.no) :
    Call c Tryz.prog 117 #[.pointer (some ⟨sb, 0, none⟩), vMove m a cap] h (StepOk M sb h (weighF σ m)) := by
  refine call_of layOk 69 Tryz.func117 Tryz.ntmps117 rfl rfl rfl rfl ?_
  refine wp_new ?_
  intro mb h1 hN
  have hc1 := hN.chg []
  refine wp_load (ld_of hN.here rfl) ?_
  refine wp_new ?_
  intro bi h2 hN2
  have hc2 := hc1.trans (hN2.chg [])
  have hfind := find_x (c := c) [] m.no [0, 1] (some ⟨bi, 0, none⟩) 2 (y.ext hc2) (.inr ⟨bi, 0, _, rfl, by simp, hN2.here, Nat.le_refl _, Nat.le_refl _, rfl⟩) (by simp)
  refine wp_call hfind ?_
  rintro _ h3 ⟨q, rfl, hq3, hc3⟩
  have hok := findF_ok (bs := σ.bales) (no := m.no) (states := [0, 1])
  have hspl : weighF σ m = weighF σ m := rfl
  conv at hspl => rhs; unfold weighF
  revert hspl hok hq3
  generalize findF σ.bales m.no [0, 1] = f
  obtain ⟨e, r⟩ := f
  dsimp only
  intro hq3 hok hspl
  have hmb3 := hc3.of (hN2.of hN.here) (by simp)
  refine wp_new ?_
  intro b6 h4 hN4
  refine wp_store hN4.here (by rfl) ?_
  intro h5 hU5
  have hc03 := hc2.trans hc3
  have y3 := y.ext hc03
  have hc35 : Chg [] h3 h5 := hU5.chgGe (hN4.chg []) hN4.le
  have hc05 := hc03.trans hc35
  have hmb5 := hc35.of hmb3 (by simp)
  have y5 := (y3.new hN4).upd hU5 (by simp) (y3.ne hN4.le)
  refine wp_br (fun g1 => ?_) (fun g1 => ?_)
  · have d1 : (e != 0) = true := g1
    have d1' : e ≠ 0 := by simpa using d1
    rw [if_pos d1'] at hspl
    exact wp_done ⟨rfl, (y.ext hc05).step (hc05.mono (by simp)) hspl⟩
  · have d1 : (e != 0) = false := g1
    have d1' : e = 0 := by simpa using d1
    obtain ⟨hg, hst⟩ := hok d1'
    have hW := hw r hg
    have hfew : r.parts.length < 1000 := Nat.lt_of_lt_of_le hW.few (by decide)
    have hgr := hW.grams
    have hle6 : h.size ≤ b6 := Nat.le_trans hc03.size hN4.le
    have hq5 : BalOk (b6 :: M) h5 r q := (hq3.push hN4.le).ext hc35
    rw [if_neg (by simpa using d1')] at hspl
    refine wp_load (ld_of hmb5 rfl) ?_
    refine wp_br (fun g2 => ?_) (fun g2 => ?_)
    · have d2 : m.grams < 1 := of_decide_eq_true g2
      repeat (first | refine wp_brT rfl ?_ | refine wp_brF rfl ?_)
      rw [if_pos d2] at hspl
      exact wp_done ⟨rfl, (y.ext hc05).step (hc05.mono (by simp)) hspl⟩
    · have d2 : ¬ m.grams < 1 := of_decide_eq_false g2
      repeat (first | refine wp_brT rfl ?_ | refine wp_brF rfl ?_)
      rw [if_neg d2] at hspl
      refine wp_load (ld_of hmb5 rfl) ?_
      repeat (first | refine wp_brT rfl ?_ | refine wp_brF rfl ?_)
      refine wp_br (fun g3 => ?_) (fun g3 => ?_)
      · have d3 : m.grams > 1073741824 := of_decide_eq_true g3
        rw [if_pos d3] at hspl
        exact wp_done ⟨rfl, (y.ext hc05).step (hc05.mono (by simp)) hspl⟩
      · have d3 : ¬ m.grams > 1073741824 := of_decide_eq_false g3
        rw [if_neg d3] at hspl
        have hpo := portion_c (c := c) (b6 :: M) m.grams r.parts q.pa q.pc h5 hq5.1 hW.few (by omega) (by omega) hW.parts hW.sum
        have hpl := portionL_len m.grams r.parts
        have hpb := portion_bd m.grams r.parts (by omega) (by omega) hW.parts hW.sum (by omega)
        revert hspl hpo hpl hpb
        generalize portionL m.grams r.parts = tk
        intro hspl hpo hpl hpb
        refine wp_load (ld_of hmb5 rfl) ?_
        refine wp_load (v := .slice q.pa r.parts.length q.pc) (ld_of hU5.here rfl) ?_
        refine wp_call hpo ?_
        rintro _ h7 ⟨a8, cap8, blk8, rfl, ho8, hc7, hf8⟩
        have hlenpos : 0 < tk.length := by
          rw [hpl]
          cases hp : r.parts with
          | nil => have := hW.sum; rw [hp] at this; simp [sumI] at this
          | cons _ _ => simp
        obtain ⟨g8, rfl, rfl⟩ := ho8.ptr (i := ti129) hlenpos
        have hg8 := hf8 g8 rfl
        have hc07 := hc05.trans hc7
        have hb7 := hc7.of hU5.here (by simp)
        have hmb7 := hc7.of hmb5 (by simp)
        have hq7 : BalOk (g8 :: b6 :: M) h7 r q := (hq5.push hg8).ext hc7
        have y7 : SC (g8 :: b6 :: M) sb h7 p σ := y5.push hg8 hc7 (ho8.lt g8 rfl)
        have hsM : sb ∈ g8 :: b6 :: M := y7.mem
        have hmbs : mb ∉ [sb] := y.nin hN.le
        have hb6s : b6 ∉ [sb] := y.nin hle6
        have hg8h : h.size ≤ g8 := Nat.le_trans hc05.size hg8
        have hs8 : ∀ g, some g8 = some g → g ∉ [sb] := fun g hg => by cases hg; exact y.nin hg8h
        have hb6lt : b6 < h5.size := (Array.getElem?_eq_some_iff.1 hU5.here).1
        have hmblt : mb < h5.size := (Array.getElem?_eq_some_iff.1 hmb5).1
        have hmbb : mb ≠ b6 := by
          have := (Array.getElem?_eq_some_iff.1 hmb3).1
          have := hN4.le
          omega
        have hsl : (subG tk r.parts).length = tk.length := subG_len _ _ hpl.symm
        have hsm : ∀ k, k ∈ [sb] → k ∈ g8 :: b6 :: M := fun k hk => by rw [List.mem_singleton] at hk; rw [hk]; exact hsM
        refine wp_loopK layOk [40, 9, 10, 11] 41 59 rfl [0, 3, 6, 8, 38, 39] [.pointer (some ⟨sb, 0, none⟩), .pointer (some ⟨mb, 0, none⟩), .pointer (some ⟨b6, 0, none⟩), .slice (some ⟨g8, 0, none⟩) tk.length cap8, .slice (some ⟨g8, 0, none⟩) tk.length cap8, .int .i64 tk.length] rfl [] rfl
          (fun k vals h' => ∃ (j : Nat) (u1 u2 u3 : Value), vals = [.int .i64 j, u1, u2, u3] ∧ j + k = tk.length ∧ Chg [sb] h7 h' ∧ ∃ p', SC (g8 :: b6 :: M) sb h' p' (tellAll weighT ((subG tk r.parts).take j) σ)) tk.length ⟨0, undef, undef, undef, rfl, by omega, Chg.refl _ _, p, y7⟩ ?_
        rintro ρ0 k g vals h8 - ⟨j, u1, u2, u3, rfl, hjk, hc8, p8, y8⟩
        have ho8' : PartsOwn h8 (some ⟨g8, 0, none⟩) cap8 tk (some g8) := ho8.chg hc8 hs8
        have hb8 := hc8.of hb7 hb6s
        have hq8 : BalOk (g8 :: b6 :: M) h8 r q := hq7.chg hc8 hsm
        refine wp_br (fun g4 => ?_) (fun g4 => ?_)
        · have hj' : (j : Int) < (tk.length : Int) := of_decide_eq_true g4
          clear g4
          have hj : j < tk.length := by omega
          have hjr : j < r.parts.length := by omega
          have hje := List.getElem?_eq_getElem hj
          have hjre := List.getElem?_eq_getElem hjr
          have hw1 := hpb _ (List.getElem_mem hj)
          have hw2 := hW.parts _ (List.getElem_mem hjr)
          have hjs : j < (subG tk r.parts).length := by omega
          have hse := subG_get tk r.parts j _ _ hje hjre
          have hse2 : (subG tk r.parts)[j] = ⟨tk[j].clip, tk[j].grams - r.parts[j].grams⟩ := by
            rw [List.getElem?_eq_getElem hjs] at hse
            exact Option.some.inj hse
          refine wp_chk ⟨by omega, by omega⟩ ?_
          refine wp_load (ho8'.ld1 (i := ti129) enPart hje) ?_
          refine wp_new ?_
          intro bx h9 hN9
          refine wp_store hN9.here (by rfl) ?_
          intro h10 hU10
          have hc10 := hU10.chgGe (hN9.chg []) hN9.le
          have hb10 := hc10.of hb8 (by simp)
          have hpa10 : PartsAt (g8 :: b6 :: M) h10 q.pa q.pc r.parts := hq8.1.ext hc10
          obtain ⟨bq, oq, hqa⟩ := hpa10.ptr (i := ti129) hjr
          rw [hqa] at hpa10
          refine wp_ord layOk mixed [(0, 10)] [9] (by kernel_rfl) ?_
          refine wp_load (v := .int .i64 tk[j].grams) (ld_of hU10.here rfl) ?_
          refine wp_load (v := .slice (some ⟨bq, oq, none⟩) r.parts.length q.pc) (by rw [← hqa]; exact ld_of hb10 rfl) ?_
          refine wp_chk ⟨by omega, by omega⟩ ?_
          refine wp_load (hpa10.ldF (i := ti129) enPart (tf := ti3) rfl hjre (k := 1) rfl) ?_
          have hwr : IntKind.i64.wrap (tk[j].grams - r.parts[j].grams) = tk[j].grams - r.parts[j].grams := w64 (by omega) (by omega)
          refine wp_new ?_
          intro bg h11 hN11
          refine wp_store (cs := [.int .i64 0]) hN11.here (by rfl) ?_
          intro h12 hU12
          have hc12 := hU12.chgGe (hN11.chg []) hN11.le
          have hl := tellAll_len weighT ((subG tk r.parts).take j) σ
          rw [List.length_take] at hl
          have hbg : h12[bg]? = some (.cells #[.int .i64 (tk[j].grams - r.parts[j].grams)] 3 (0, 0)) := by
            rw [hU12.here]
            exact congrArg (fun z => some (Obj.cells #[Value.int .i64 z] 3 (0, 0))) hwr
          refine wp_load (v := .int .i64 tk[j].clip) (ld_of (hc12.of hU10.here (by simp)) rfl) ?_
          refine wp_call (tell_x (y := (y8.ext hc10).ext hc12) tk[j].clip 170 [.pointer (some ⟨bg, 0, none⟩)] (weighT (tk[j].grams - r.parts[j].grams)) (by have := hz.totals; omega) (fun tb h7 t hc7 hle ht =>
            weighT_c (tk[j].grams - r.parts[j].grams) bg tb t h7 (hc7.of hbg (by simp)) ht)) ?_
          rintro _ h13 ⟨p13, y13, hc13⟩
          have e13 := tellAll_take weighT (subG tk r.parts) j hjs σ
          rw [hse2] at e13
          rw [← e13] at y13
          refine wp_done ⟨k - 1, by omega, j + 1, .int .i64 j, .pointer (some ⟨bx, 0, none⟩), .pointer (some ⟨bg, 0, none⟩), ?_, by omega, (hc8.trans ((hc10.trans hc12).mono (by simp))).trans hc13, p13, y13⟩
          exact congrArg (fun z => [Value.int .i64 z, .int .i64 j, .pointer (some ⟨bx, 0, none⟩), .pointer (some ⟨bg, 0, none⟩)]) (by rw [w64 (by omega) (by omega)]; omega)
        · have hj' : ¬ ((j : Int) < (tk.length : Int)) := of_decide_eq_false g4
          clear g4
          rw [List.take_of_length_le (by omega)] at y8
          have hmb8 := hc8.of hmb7 hmbs
          have hc08 : Chg [sb] h h8 := (hc07.mono (by simp)).trans hc8
          have hzl : (tellAll weighT (subG tk r.parts) σ).bales.length < 900000 := by rw [tellAll_bales]; have := hz.bales; omega
          have hmD : mb ∉ [g8, b6] := fun hm => by
            rcases List.mem_cons.1 hm with hm | hm
            · omega
            · exact hmbb (List.mem_singleton.1 hm)
          have hgb : b6 ≠ g8 := by omega
          have hg8M : g8 ∉ b6 :: M := fun hm => by
            rcases List.mem_cons.1 hm with hm | hm
            · exact hgb hm.symm
            · exact y.notM hg8h hm
          refine wp_done ?_
          show X.wp _ _ _ _ _ _ _
          refine wp_ordD layOk mixed [g8, b6] [(0, 0), (2, 3), (1, 1), (4, 7)] [1, 5] (by kernel_rfl) ?_
          refine wp_chk hmD ?_
          refine wp_load (ld_of hmb8 rfl) ?_
          refine wp_callE (solid_c tk (some ⟨g8, 0, none⟩) cap8 (some g8) h8 ho8' (by omega)) ?_
          rintro _ h9 ⟨rfl, ho9, hc9⟩
          refine ⟨hc9.mono (by simp), ?_⟩
          have y9 : SC (b6 :: M) sb h9 p8 (tellAll weighT (subG tk r.parts) σ) := (y8.chg hc9 (by simp) (fun hm => y.ne hg8h (by simpa using hm))).sub (fun k hk => List.mem_cons_of_mem _ hk) y5.mem
          have hb9 := hc9.of hb8 (by simpa using hgb)
          refine wp_chk (by simp) ?_
          refine wp_store hb9 (by rfl) ?_
          intro h10 hU10
          refine wp_store hU10.here (by rfl) ?_
          intro h11 hU11
          have y11 := (y9.upd hU10 (by simp) (y3.ne hN4.le)).upd hU11 (by simp) (y3.ne hN4.le)
          have hx : Chg [b6] h9 h11 := (hU10.chg (by simp)).trans (hU11.chg (by simp))
          have hq9 : IntsAt (b6 :: M) h9 q.fa q.fc r.from_ := (hq8.2.chg hc9 (by simp)).sub (fun k hk => List.mem_cons_of_mem _ hk)
          have hq11 : BalOk (b6 :: M) h11 { r with parts := solidL tk, grams := m.grams } { q with pa := some ⟨g8, 0, none⟩, pc := cap8 } :=
            ⟨(ho9.chg hx (fun g hg hm => by cases hg; exact hgb (List.mem_singleton.1 hm).symm)).sl (fun g hg => by cases hg; exact hg8M), hq9.chg hx (fun k hk => by rw [List.mem_singleton] at hk; simp [hk])⟩
          have hcc : Chg [sb] h h11 := by
            refine (hc08.fresh hc9 (fun k hk => .inr ?_)).fresh hx (fun k hk => .inr ?_)
            · have : k = g8 := by simpa using hk
              rw [this]
              exact hg8h
            · rw [List.mem_singleton] at hk
              rw [hk]
              exact hle6
          refine wp_load (v := vBale { r with parts := solidL tk, grams := m.grams } { q with pa := some ⟨g8, 0, none⟩, pc := cap8 }) (ld_of hU11.here rfl) ?_
          refine wp_call (keep_x _ _ y11 hq11 hzl) ?_
          rintro _ h12 ⟨p12, y12, hc12⟩
          have hfin := (y12.sub (fun k hk => List.mem_cons_of_mem _ hk) y.mem).step (hcc.trans hc12) hspl
          exact wp_done ⟨rfl, hfin⟩
end Go.Xe
namespace Go.Xe
open Go Go.Proofs
set_option maxRecDepth 20000
variable {c : World}
theorem SlAt.take {α : Type} {e sz : Nat} {enc : α → List Value} {M : List Nat} {h : Hp} {a : Option Addr} {cap : Nat} {l : List α} (henc : ∀ x, (enc x).length = sz) (y : SlAt e sz enc M h a cap l) (j : Nat) : SlAt e sz enc M h a cap (l.take j) := by
  rcases y with ⟨h1, h2, rfl⟩ | ⟨b, o, cs, h1, h2, h3, h4, h5, h6⟩
  · exact .inl ⟨h1, h2, by simp⟩
  · refine .inr ⟨b, o, cs, h1, h2, h3, Nat.le_trans (by rw [List.length_take]; exact Nat.min_le_right _ _) h4, h5, ?_⟩
    have e1 : l.flatMap enc = (l.take j).flatMap enc ++ (l.drop j).flatMap enc := by rw [← List.flatMap_append, List.take_append_drop]
    have hl := flat_len henc (l.take j)
    have hle : (l.take j).length * sz ≤ l.length * sz := Nat.mul_le_mul_right _ (by rw [List.length_take]; exact Nat.min_le_right _ _)
    rw [← Nat.min_eq_left hle, ← List.take_take, h6, e1, ← hl]
    exact List.take_left
/-- a field of several cells is read -/
theorem SlAt.ldA {α : Type} {e : Nat} {i : TI} {enc : α → List Value} {M : List Nat} {h : Hp} {cap : Nat} {l : List α} (hi : EncOk i enc) {tf : TI} (h1 : (match tf.desc with | .struct _ | .array _ _ => true | _ => Nat.beq tf.size 1) = true) (hp : 0 < tf.size) {b o : Nat}
    (y : SlAt e i.size enc M h (some ⟨b, o, none⟩) cap l) {j : Nat} {x : α} (hj : l[j]? = some x) {k : Nat} (hk : k + tf.size ≤ i.size) : Ld h b (o + j * i.size + k) tf (valOf tf (((enc x).drop k).take tf.size)) := by
  rcases y with ⟨h1, _⟩ | ⟨b', o', cs, h1', h2, h3, h4, h5, h6⟩
  · cases h1
  · injection h1' with h1'
    injection h1' with hbb hoo
    subst hbb; subst hoo
    refine ⟨cs, e, (0, 0), h3, rd_of (L := ((enc x).drop k).take tf.size) ?_ ?_ hp h1⟩
    · have hjl := (List.getElem?_eq_some_iff.1 hj).1
      have hf := flat_at hi.len l j x hj
      have h9 : (j + 1) * i.size ≤ l.length * i.size := Nat.mul_le_mul_right _ hjl
      rw [Nat.add_mul] at h9
      rw [← hf, ← h6]
      apply List.ext_getElem?
      intro t
      simp only [List.getElem?_take, List.getElem?_drop]
      by_cases ht : t < tf.size
      · rw [if_pos ht, if_pos ht, if_pos (by omega), if_pos (by omega)]
        congr 1
        omega
      · rw [if_neg ht, if_neg ht]
    · rw [List.length_take, List.length_drop, hi.len]
      omega
/-- a slice of other elements is written to -/
theorem SlAt.apart {α β : Type} {e sz e2 sz2 : Nat} {enc : α → List Value} {enc2 : β → List Value} {M : List Nat} {h h' : Hp} {a a2 : Option Addr} {cap cap2 : Nat} {l : List α} {l2 : List β} {blk : Option Nat}
    (x : Chg blk.toList h h') (ho : OwnAt e2 sz2 enc2 h a2 cap2 l2 blk) (he : e2 ≠ e) (y : SlAt e sz enc M h a cap l) : SlAt e sz enc M h' a cap l := by
  rcases y with y | ⟨b, o, cs, h1, h2, h3, h4⟩
  · exact .inl y
  · refine .inr ⟨b, o, cs, h1, h2, x.of h3 (fun hm => ?_), h4⟩
    rcases ho with ⟨_, _, _, rfl⟩ | ⟨g, cs2, _, rfl, g3, _⟩
    · simp at hm
    · have : b = g := by simpa using hm
      subst this
      rw [h3] at g3
      injection g3 with g3
      injection g3 with _ g4 _
      exact he g4.symm
def encBale (x : BaleR × BalP) : List Value := elBale x.1 x.2
theorem enBale : EncOk ti42 encBale := ⟨fun _ => rfl, by decide, rfl, fun x u hu => by
  simp only [encBale, elBale, List.mem_cons, List.not_mem_nil, or_false] at hu
  rcases hu with rfl | rfl | rfl | rfl | rfl | rfl | rfl | rfl | rfl | rfl <;> rfl, by decide⟩
abbrev BalesAtS (M : List Nat) (h : Hp) (a : Option Addr) (cap : Nat) (l : List (BaleR × BalP)) := SlAt 42 10 encBale M h a cap l
abbrev BalesOwn (h : Hp) (a : Option Addr) (cap : Nat) (l : List (BaleR × BalP)) (blk : Option Nat) := OwnAt 42 10 encBale h a cap l blk
def AllOk (M : List Nat) (h : Hp) (L : List (BaleR × BalP)) : Prop := ∀ x, x ∈ L → BalOk M h x.1 x.2
theorem AllOk.ext {M : List Nat} {h h' : Hp} {L : List (BaleR × BalP)} (x : Chg [] h h') (y : AllOk M h L) : AllOk M h' L := fun z hz => (y z hz).ext x
theorem sevGo_cons (bs : List (Int × BaleR)) (nos : List Int) (j : Nat) (no : Int) (hj : nos[j]? = some no) (out : List BaleR) : sevGo bs nos j (nos.drop j) out =
    (if (findF bs no [0]).1 = 7 then (7, []) else if (nos.take j).contains no = true then (2, []) else if (findF bs no [0]).1 ≠ 0 then ((findF bs no [0]).1, []) else sevGo bs nos (j + 1) (nos.drop (j + 1)) (out ++ [(findF bs no [0]).2])) := by
  have hl := (List.getElem?_eq_some_iff.1 hj)
  obtain ⟨hl, he⟩ := hl
  rw [List.drop_eq_getElem_cons hl, he]
  rfl
theorem sevGo_nil (bs : List (Int × BaleR)) (nos : List Int) (j : Nat) (hj : nos.length ≤ j) (out : List BaleR) : sevGo bs nos j (nos.drop j) out = (bif out.all fun b => kindB b.kind ((out.head?.getD zBaleR).kind) then (0, out) else (12, [])) := by
  rw [List.drop_eq_nil_of_le hj]
  rfl
theorem several_x (M Mn : List Nat) (sb : Nat) (p : StP) (σ : StateR) (nos : List Int) (a : Option Addr) (cap : Nat) (h : Hp) (y : SC M sb h p σ) (hn : IntsAt Mn h a cap nos) (hz : nos.length < 1000) :
    Call c Tryz.prog 163 #[.pointer (some ⟨sb, 0, none⟩), .slice a nos.length cap] h fun v h' => ∃ (L : List (BaleR × BalP)) (e : Int) (a' : Option Addr) (cap' : Nat) (blk' : Option Nat),
      v = .tuple #[.slice a' L.length cap', .int .i64 e] ∧ severalF σ.bales nos = (e, L.map (·.1)) ∧ BalesOwn h' a' cap' L blk' ∧ AllOk M h' L ∧ Chg [] h h' ∧ Fresh h blk' := by
  refine call_of layOk 61 Tryz.func163 Tryz.ntmps163 rfl rfl rfl rfl ?_
  refine wp_loopK layOk [15, 6, 7, 8, 9, 10, 4, 5] 16 45 rfl [0, 1, 13, 14] [.pointer (some ⟨sb, 0, none⟩), .slice a nos.length cap, .slice a nos.length cap, .int .i64 nos.length] rfl [] rfl
    (fun m vals h' => ∃ (j : Nat) (u7 u8 u9 u10 u4 u5 : Value) (a6 : Option Addr) (cap6 : Nat) (blk6 : Option Nat) (L : List (BaleR × BalP)), vals = [.int .i64 j, .slice a6 L.length cap6, u7, u8, u9, u10, u4, u5] ∧ j + m = nos.length ∧
      BalesOwn h' a6 cap6 L blk6 ∧ Fresh h blk6 ∧ Chg [] h h' ∧ AllOk M h' L ∧ L.length ≤ j ∧ severalF σ.bales nos = sevGo σ.bales nos j (nos.drop j) (L.map (·.1)))
    nos.length ⟨0, undef, undef, undef, undef, .slice none 0 0, .int .i64 0, none, 0, none, [], rfl, by omega, OwnAt.nil, .none, Chg.refl _ _, (fun _ h => by cases h), Nat.le_refl _, rfl⟩ ?_
  rintro ρ0 m g vals h1 - ⟨j, u7, u8, u9, u10, u4, u5, a6, cap6, blk6, L, rfl, hjm, ho6, hf6, hc1, hL, hLl, hsev⟩
  refine wp_br (fun g1 => ?_) (fun g1 => ?_)
  · have hj' : (j : Int) < (nos.length : Int) := of_decide_eq_true g1
    clear g1
    have hj : j < nos.length := by omega
    have hje := List.getElem?_eq_getElem hj
    revert hje
    generalize nos[j] = no
    intro hje
    rw [sevGo_cons _ _ _ _ hje] at hsev
    have hn1 := hn.ext hc1
    obtain ⟨b, o, hqa⟩ := hn1.ptr (i := ti3) hj
    rw [hqa] at hn1 ⊢
    have y1 := y.ext hc1
    refine wp_chk ⟨by omega, by omega⟩ ?_
    refine wp_load (hn1.ld1 (i := ti3) enI hje) ?_
    refine wp_new ?_
    intro bi h2 hN2
    have hfind := find_x (c := c) [] no [0] (some ⟨bi, 0, none⟩) 1 (y1.ext (hN2.chg [])) (.inr ⟨bi, 0, _, rfl, by simp, hN2.here, Nat.le_refl _, Nat.le_refl _, rfl⟩) (by simp)
    refine wp_call hfind ?_
    rintro _ h3 ⟨q, rfl, hq3, hc3⟩
    revert hsev hq3
    generalize findF σ.bales no [0] = f
    obtain ⟨e, r⟩ := f
    dsimp only
    intro hsev hq3
    refine wp_new ?_
    intro b6 h4 hN4
    refine wp_store hN4.here (by rfl) ?_
    intro h5 hU5
    have hc35 : Chg [] h3 h5 := hU5.chgGe (hN4.chg []) hN4.le
    have hc13 : Chg [] h1 h3 := (hN2.chg []).trans hc3
    have hc15 := hc13.trans hc35
    have hc05 := hc1.trans hc15
    refine wp_br (fun g2 => ?_) (fun g2 => ?_)
    · have d2 : (e == 7) = true := g2
      have d2' : e = 7 := by simpa using d2
      rw [if_pos d2'] at hsev
      have hfin : severalF σ.bales nos = (e, ([] : List (BaleR × BalP)).map (·.1)) := by rw [hsev, d2']; rfl
      refine wp_done ?_
      show X.wp _ _ _ _ _ _ _
      exact wp_done ⟨rfl, [], e, none, 0, none, rfl, hfin, OwnAt.nil, (fun _ h => by cases h), hc05, .none⟩
    · have d2 : (e == 7) = false := g2
      have d2' : ¬ e = 7 := by simpa using d2
      rw [if_neg d2'] at hsev
      refine wp_chk ⟨by omega, by
        rcases hn1 with ⟨h0, _⟩ | ⟨_, _, _, _, _, _, h4, _⟩
        · cases h0
        · omega⟩ ?_
      have hcon := contains_c (c := c) Mn (nos.take j) no (some ⟨b, o, none⟩) cap h5 ((SlAt.take (sz := 1) (enc := elInt) (fun _ => rfl) hn1 j).ext hc15) (by rw [List.length_take]; omega)
      rw [show (nos.take j).length = ((j : Int)).toNat from by rw [List.length_take]; omega] at hcon
      refine wp_call hcon ?_
      rintro _ h5 ⟨rfl, rfl⟩
      refine wp_br (fun g3 => ?_) (fun g3 => ?_)
      · have d3 : (nos.take j).contains no = true := g3
        rw [if_pos d3] at hsev
        refine wp_done ?_
        show X.wp _ _ _ _ _ _ _
        exact wp_done ⟨rfl, [], 2, none, 0, none, rfl, hsev, OwnAt.nil, (fun _ h => by cases h), hc05, .none⟩
      · have d3 : (nos.take j).contains no = false := g3
        rw [if_neg (by rw [d3]; simp)] at hsev
        refine wp_br (fun g4 => ?_) (fun g4 => ?_)
        · have d4 : (e != 0) = true := g4
          have d4' : e ≠ 0 := by simpa using d4
          rw [if_pos d4'] at hsev
          refine wp_done ?_
          show X.wp _ _ _ _ _ _ _
          exact wp_done ⟨rfl, [], e, none, 0, none, rfl, hsev, OwnAt.nil, (fun _ h => by cases h), hc05, .none⟩
        · have d4 : (e != 0) = false := g4
          have d4' : e = 0 := by simpa using d4
          rw [if_neg (by simpa using d4')] at hsev
          refine wp_load (v := vBale r q) (ld_of hU5.here rfl) ?_
          refine wp_new ?_
          intro b8 h8 hN8
          have ho8 := (ho6.ext hc15).ext (hN8.chg [])
          have hc18 : Chg [] h1 h8 := hc15.trans (hN8.chg [])
          refine wp_append layOk (t := 29) rfl rfl rfl (i := ti42) enBale rfl rfl rfl ho8 (M := []) (l' := [(r, q)]) (.inr ⟨b8, 0, _, rfl, by simp, hN8.here, Nat.le_refl _, Nat.le_refl _, rfl⟩) (by simp; omega) (by simp) ?_
          intro h9 a9 cap9 blk9 ho9 hc9 hb9
          have hcc := (hc1.trans hc18).freshO hc9 hf6
          have hc19 : Chg blk6.toList h1 h9 := (hc18.mono (by simp)).trans hc9
          refine wp_done ⟨m - 1, by omega, j + 1, .int .i64 j, .int .i64 no, .pointer (some ⟨b6, 0, none⟩), .int .i64 e, u4, u5, a9, cap9, blk9, L ++ [(r, q)], ?_, by omega, ho9, hf6.step (Nat.le_trans hc1.size hc18.size) hb9, hcc, ?_, by rw [List.length_append]; exact Nat.succ_le_succ hLl, ?_⟩
          · exact congrArg (fun z => [Value.int .i64 z, .slice a9 (L ++ [(r, q)]).length cap9, .int .i64 j, .int .i64 no, .pointer (some ⟨b6, 0, none⟩), .int .i64 e, u4, u5]) (by rw [w64 (by omega) (by omega)]; omega)
          · intro x hx
            have hx8 : BalOk M h8 x.1 x.2 := by
              rcases List.mem_append.1 hx with hx | hx
              · exact (hL x hx).ext hc18
              · rw [List.mem_singleton] at hx
                rw [hx]
                exact hq3.ext (hc35.trans (hN8.chg []))
            exact ⟨hx8.1.apart hc9 ho8 (by decide), hx8.2.apart hc9 ho8 (by decide)⟩
          · rw [List.map_append]; exact hsev
  · have hj' : ¬ ((j : Int) < (nos.length : Int)) := of_decide_eq_false g1
    clear g1
    rw [sevGo_nil _ _ _ (by omega)] at hsev
    refine wp_done ?_
    show X.wp _ _ _ _ _ _ _
    refine wp_loopK layOk [48, 12, 4, 5] 49 59 rfl [6, 46, 47] [.slice a6 L.length cap6, .slice a6 L.length cap6, .int .i64 L.length] rfl [] rfl
      (fun m vals h' => ∃ (k : Nat) (u12 u4 u5 : Value), vals = [.int .i64 k, u12, u4, u5] ∧ k + m = L.length ∧ Chg [] h1 h' ∧ ((L.map (·.1)).take k).all (fun b => kindB b.kind (((L.map (·.1)).head?.getD zBaleR).kind)) = true)
      L.length ⟨0, _, _, _, rfl, by omega, Chg.refl _ _, rfl⟩ ?_
    rintro ρ1 m1 g1 vals h2 - ⟨k, v12, v4, v5, rfl, hkm, hc2, hall⟩
    have ho2 := ho6.ext hc2
    have hc02 := hc1.trans hc2
    refine wp_br (fun g3 => ?_) (fun g3 => ?_)
    · have hk' : (k : Int) < (L.length : Int) := of_decide_eq_true g3
      clear g3
      have hk : k < L.length := by omega
      have h0 : 0 < L.length := by omega
      have hke := List.getElem?_eq_getElem hk
      have h0e := List.getElem?_eq_getElem h0
      have hhead : ((L.map (·.1)).head?.getD zBaleR) = L[0].1 := by
        cases L with
        | nil => simp at h0
        | cons _ _ => rfl
      rw [hhead] at hsev hall
      have htk : (L.map (·.1)).take (k + 1) = (L.map (·.1)).take k ++ [L[k].1] := by
        rw [List.take_add_one]
        simp [hke]
      have hmem : L[k].1 ∈ L.map (·.1) := List.mem_map_of_mem (List.getElem_mem hk)
      generalize L[k] = xk at hke htk hmem
      generalize L[0] = x0 at h0e hsev hall hhead
      obtain ⟨b, rfl, rfl⟩ := ho2.ptr (i := ti42) hk
      refine wp_chk ⟨by omega, by omega⟩ ?_
      refine wp_load (ho2.ld1 (i := ti42) enBale hke) ?_
      refine wp_new ?_
      intro b3 h3 hN3
      refine wp_store hN3.here (by rfl) ?_
      intro h4 hU4
      have hc4 : Chg [] h2 h4 := hU4.chgGe (hN3.chg []) hN3.le
      have ho4 := ho2.ext hc4
      refine wp_drawG layOk mixed [] (fun o => freesO (rs [(0, 5)]) (.alt 6 .fin .non)) [] (by kernel_rfl) [6, 12, 46, 47, 48, 4, 5, 58] [] rfl
        (fun vals h' => h' = h4 ∧ vals = [.slice (some ⟨b, 0, none⟩) L.length cap6, .pointer (some ⟨b3, 0, none⟩), .slice (some ⟨b, 0, none⟩) L.length cap6, .int .i64 L.length, .int .i64 k, v4, v5, .bool (!kindB xk.1.kind x0.1.kind)]) ?_ ?_
      · refine wp_load (v := vKind xk.1.kind) (ld_of hU4.here rfl) ?_
        refine wp_chk ⟨by omega, by omega⟩ ?_
        refine wp_load (v := vKind x0.1.kind) ?_ ?_
        · exact (ho4.sl (M := []) (by simp)).ldA (i := ti42) enBale (tf := ti39) rfl (by decide) h0e (k := 1) (by decide)
        · refine wp_sem0 (.bool (!kindB xk.1.kind x0.1.kind)) (fun w => run_kindNe _ _ _ _ w) ?_
          exact wp_done ⟨rfl, rfl⟩
      · rintro ρ2 _ _ ⟨rfl, rfl⟩
        refine wp_br (fun g5 => ?_) (fun g5 => ?_)
        · have d5 : (!kindB xk.1.kind x0.1.kind) = true := g5
          have hf : ((L.map (·.1)).all fun b => kindB b.kind x0.1.kind) = false := by
            rw [List.all_eq_false]
            exact ⟨_, hmem, by simpa using d5⟩
          rw [hf] at hsev
          refine wp_done ?_
          show X.wp _ _ _ _ _ _ _
          exact wp_done ⟨rfl, [], 12, none, 0, none, rfl, hsev, OwnAt.nil, (fun _ h => by cases h), hc02.trans hc4, .none⟩
        · have d5 : (!kindB xk.1.kind x0.1.kind) = false := g5
          refine wp_done ⟨m1 - 1, by omega, k + 1, .pointer (some ⟨b3, 0, none⟩), v4, v5, ?_, by omega, hc2.trans hc4, ?_⟩
          · exact congrArg (fun z => [Value.int .i64 z, .pointer (some ⟨b3, 0, none⟩), v4, v5]) (by rw [w64 (by omega) (by omega)]; omega)
          · rw [hhead, htk, List.all_append, hall]
            simpa using d5
    · have hk' : ¬ ((k : Int) < (L.length : Int)) := of_decide_eq_false g3
      clear g3
      rw [List.take_of_length_le (by rw [List.length_map]; omega)] at hall
      rw [hall] at hsev
      have hL2 : AllOk M h2 L := hL.ext hc2
      refine wp_done ?_
      show X.wp _ _ _ _ _ _ _
      exact wp_done ⟨rfl, L, 0, a6, cap6, blk6, rfl, hsev, ho2, hL2, hc02, hf6⟩
end Go.Xe
namespace Go.Xe
open Go Go.Proofs
set_option maxRecDepth 20000
variable {c : World}
theorem keepAll_snoc (F : BaleR → BaleR) : ∀ (l : List BaleR) (b : BaleR) (σ : StateR), keepAll F (l ++ [b]) σ = keepS (keepAll F l σ) (F b)
  | [], _, _ => rfl
  | x :: l, b, σ => by simp only [List.cons_append, keepAll]; exact keepAll_snoc F l b _
theorem keepAll_take (F : BaleR → BaleR) (l : List BaleR) (j : Nat) (b : BaleR) (hj : l[j]? = some b) (σ : StateR) : keepAll F (l.take (j + 1)) σ = keepS (keepAll F (l.take j) σ) (F b) := by
  rw [List.take_add_one, hj]
  exact keepAll_snoc F _ _ _
theorem keepAll_len (F : BaleR → BaleR) : ∀ (l : List BaleR) (σ : StateR), (keepAll F l σ).bales.length ≤ σ.bales.length + l.length
  | [], σ => Nat.le_refl _
  | p :: l, σ => by
    have h1 := keepAll_len F l (keepS σ (F p))
    have h2 := length_insL (lt := ltI) (k := (F p).no) (v := F p) σ.bales
    simp only [keepAll, List.length_cons]
    unfold keepS at h1 ⊢
    dsimp only at h1
    omega
theorem keepAll_rest (F : BaleR → BaleR) : ∀ (l : List BaleR) (σ : StateR), (keepAll F l σ).lots = σ.lots ∧ (keepAll F l σ).totals = σ.totals ∧ (keepAll F l σ).clips = σ.clips ∧ (keepAll F l σ).names = σ.names
  | [], _ => ⟨rfl, rfl, rfl, rfl⟩
  | p :: l, σ => keepAll_rest F l (keepS σ (F p))
theorem BalOk.fields {M : List Nat} {h : Hp} {r : BaleR} {q : BalP} (x : BalOk M h r q) (r' : BaleR) (h1 : r'.parts = r.parts) (h2 : r'.from_ = r.from_) : BalOk M h r' q := ⟨h1 ▸ x.1, h2 ▸ x.2⟩
theorem several_len {bs : List (Int × BaleR)} {all : List Int} : ∀ (l : List Int) (i : Nat) (out L : List BaleR) (e : Int), sevGo bs all i l out = (e, L) → L.length ≤ out.length + l.length
  | [], i, out, L, e, h => by
    unfold sevGo at h
    cases hx : (out.all fun b => kindB b.kind ((out.head?.getD zBaleR).kind)) with
    | true => rw [hx] at h; cases h; exact Nat.le_refl _
    | false => rw [hx] at h; cases h; exact Nat.zero_le _
  | no :: l, i, out, L, e, h => by
    unfold sevGo at h
    dsimp only at h
    split at h
    · cases h; exact Nat.zero_le _
    · split at h
      · cases h; exact Nat.zero_le _
      · split at h
        · cases h; exact Nat.zero_le _
        · have := several_len l _ _ _ _ h
          simp only [List.length_append, List.length_cons, List.length_nil] at this ⊢
          omega
theorem SlAt.offTy {α : Type} {e sz : Nat} {enc : α → List Value} {M : List Nat} {h h' : Hp} {a : Option Addr} {cap : Nat} {l : List α} {b0 : Nat} {cs0 : Array Value} {T : Nat} {fz : Nat × Nat}
    (x : Chg [b0] h h') (hb : h[b0]? = some (.cells cs0 T fz)) (hT : T ≠ e) (y : SlAt e sz enc M h a cap l) : SlAt e sz enc M h' a cap l := by
  rcases y with y | ⟨b, o, cs, h1, h2, h3, h4⟩
  · exact .inl y
  · exact .inr ⟨b, o, cs, h1, h2, x.of h3 (fun hm => ne_of_ty hb h3 hT (List.mem_singleton.1 hm).symm), h4⟩
theorem lot_x (M Mn : List Nat) (sb : Nat) (p : StP) (σ : StateR) (m : MoveR) (a : Option Addr) (cap : Nat) (h : Hp) (y : SC M sb h p σ) (hz : SizeW σ) (hn : IntsAt Mn h a cap m.nos) :
    Call c Tryz.prog 121 #[.pointer (some ⟨sb, 0, none⟩), vMove m a cap] h (StepOk M sb h (lotF σ m)) := by
  have hspl : lotF σ m = lotF σ m := rfl
  conv at hspl => rhs; unfold lotF
  obtain ⟨ys0, hm0, ha0⟩ := y.ok.lots
  have hgv : ∃ x, SL.getV m.name ys0 = .tuple #[.pointer x, .bool (getL eqS m.name σ.lots).isSome] := by
    unfold SL.getV
    rcases ha0.get eqS m.name with ⟨e1, e2⟩ | ⟨b, r, e1, e2, _⟩
    · rw [e1, e2]; exact ⟨none, rfl⟩
    · rw [e1, e2]; exact ⟨_, rfl⟩
  obtain ⟨xg, hgv⟩ := hgv
  refine call_of layOk 89 Tryz.func121 Tryz.ntmps121 rfl rfl rfl rfl ?_
  refine wp_new ?_
  intro mb h1 hN
  have hc1 := hN.chg []
  have y1 := y.ext hc1
  have hget := SL.get_c (c := c) M ys0 m.name p.l h1 (hm0.ext hc1)
  rw [hgv] at hget
  refine wp_ord layOk mixed [(0, 11)] [] (by kernel_rfl) ?_
  refine wp_load (ld_of y1.blk rfl) ?_
  refine wp_load (ld_of hN.here rfl) ?_
  refine wp_call hget ?_
  rintro _ h2 ⟨rfl, hc2⟩
  have hc02 := hc1.trans hc2
  have hmb2 := hc2.of hN.here (by simp)
  refine wp_load (ld_of hmb2 rfl) ?_
  refine wp_call (name_c m.name h2) ?_
  rintro _ h2 ⟨rfl, rfl⟩
  refine wp_br (fun g1 => ?_) (fun g1 => ?_)
  · have d1 : (!nameB m.name) = true := g1
    rw [if_pos (by simpa using d1)] at hspl
    exact wp_done ⟨rfl, (y.ext hc02).step (hc02.mono (by simp)) hspl⟩
  · have d1 : (!nameB m.name) = false := g1
    rw [if_neg (by simpa using d1)] at hspl
    refine wp_br (fun g2 => ?_) (fun g2 => ?_)
    · have d2 : (getL eqS m.name σ.lots).isSome = true := g2
      rw [if_pos d2] at hspl
      exact wp_done ⟨rfl, (y.ext hc02).step (hc02.mono (by simp)) hspl⟩
    · have d2 : (getL eqS m.name σ.lots).isSome = false := g2
      rw [if_neg (by rw [d2]; simp)] at hspl
      refine wp_load (v := .slice a m.nos.length cap) (ld_of hmb2 rfl) ?_
      refine wp_br (fun g3 => ?_) (fun g3 => ?_)
      · have d3 : (m.nos.length : Int) > 16 := of_decide_eq_true g3
        rw [if_pos (by omega)] at hspl
        exact wp_done ⟨rfl, (y.ext hc02).step (hc02.mono (by simp)) hspl⟩
      · have d3 : ¬ (m.nos.length : Int) > 16 := of_decide_eq_false g3
        rw [if_neg (by omega)] at hspl
        refine wp_load (v := .slice a m.nos.length cap) (ld_of hmb2 rfl) ?_
        refine wp_br (fun g4 => ?_) (fun g4 => ?_)
        · have d4 : ((m.nos.length : Int) == 0) = true := g4
          have d4' : m.nos.length = 0 := by simpa using d4
          rw [if_pos d4'] at hspl
          exact wp_done ⟨rfl, (y.ext hc02).step (hc02.mono (by simp)) hspl⟩
        · have d4 : ((m.nos.length : Int) == 0) = false := g4
          have d4' : ¬ m.nos.length = 0 := by simpa using d4
          rw [if_neg d4'] at hspl
          refine wp_load (v := .slice a m.nos.length cap) (ld_of hmb2 rfl) ?_
          refine wp_call (several_x M Mn sb p σ m.nos a cap h2 (y.ext hc02) (hn.ext hc02) (by omega)) ?_
          rintro _ h3 ⟨L, e, aL, capL, blkL, rfl, hsev, hoL, hL, hc3, hfL⟩
          have hLlen : L.length ≤ 16 := by
            have hsev' : sevGo σ.bales m.nos 0 m.nos [] = (e, L.map (·.1)) := hsev
            have := several_len m.nos 0 [] (L.map (·.1)) e hsev'
            rw [List.length_map] at this
            simp at this
            omega
          rw [hsev] at hspl
          dsimp only at hspl
          have hc03 := hc02.trans hc3
          have hmb3 := hc3.of hmb2 (by simp)
          have y3 := y.ext hc03
          refine wp_br (fun g5 => ?_) (fun g5 => ?_)
          · have d5 : (e != 0) = true := g5
            have d5' : e ≠ 0 := by simpa using d5
            rw [if_pos d5'] at hspl
            exact wp_done ⟨rfl, y3.step (hc03.mono (by simp)) hspl⟩
          · have d5 : (e != 0) = false := g5
            have d5' : e = 0 := by simpa using d5
            rw [if_neg (by simpa using d5')] at hspl
            have hlen := SL.mlen_c (c := c) M ys0 p.l h3 (hm0.ext hc03)
            rw [ha0.len] at hlen
            refine wp_load (ld_of y3.blk rfl) ?_
            refine wp_call hlen ?_
            rintro _ h4 ⟨rfl, hc4⟩
            have hc04 := hc03.trans hc4
            have y4 := y.ext hc04
            have hmb4 := hc4.of hmb3 (by simp)
            refine wp_br (fun g6 => ?_) (fun g6 => ?_)
            · have d6 : (σ.lots.length : Int) ≥ 64 := of_decide_eq_true g6
              rw [if_pos (by omega)] at hspl
              exact wp_done ⟨rfl, y4.step (hc04.mono (by simp)) hspl⟩
            · have d6 : ¬ (σ.lots.length : Int) ≥ 64 := of_decide_eq_false g6
              rw [if_neg (by omega)] at hspl
              have hsbM : sb ∈ M := y.mem
              have hsm : ∀ k, k ∈ [sb] → k ∈ M := fun k hk => by rw [List.mem_singleton] at hk; rw [hk]; exact hsbM
              have hmbs : mb ∉ [sb] := y.nin hN.le
              have hoL4 := hoL.ext hc4
              have hL4 := hL.ext hc4
              have hLs : ∀ g, blkL = some g → g ∉ [sb] := fun g hg => y.nin (Nat.le_trans hc02.size (hfL g hg))
              have hmblt := (Array.getElem?_eq_some_iff.1 hmb4).1
              refine wp_loopK layOk [59, 11] 60 70 rfl [0, 3, 57, 58] [.pointer (some ⟨sb, 0, none⟩), .pointer (some ⟨mb, 0, none⟩), .slice aL L.length capL, .int .i64 L.length] rfl [] rfl
                (fun k vals h' => ∃ (j : Nat) (u : Value), vals = [.int .i64 j, u] ∧ j + k = L.length ∧ Chg [sb] h4 h' ∧ ∃ p', SC M sb h' p' (keepAll (fun b => { b with state := 1, lot := m.name }) ((L.map (·.1)).take j) σ)) L.length ⟨0, undef, rfl, by omega, Chg.refl _ _, p, y4⟩ ?_
              rintro ρ0 k g vals h5 - ⟨j, u, rfl, hjk, hc5, p5, y5⟩
              have hmb5 := hc5.of hmb4 hmbs
              refine wp_br (fun g7 => ?_) (fun g7 => ?_)
              · have hj' : (j : Int) < (L.length : Int) := of_decide_eq_true g7
                clear g7
                have hj : j < L.length := by omega
                have hje := List.getElem?_eq_getElem hj
                have hmem := List.getElem_mem hj
                generalize L[j] = x at hje hmem
                obtain ⟨r, q⟩ := x
                have hjm : (L.map (·.1))[j]? = some r := by rw [List.getElem?_map, hje]; rfl
                have hoL5 := hoL4.chg hc5 hLs
                have hq5 : BalOk M h5 r q := (hL4 _ hmem).chg hc5 hsm
                obtain ⟨b, rfl, rfl⟩ := hoL5.ptr (i := ti42) hj
                refine wp_chk ⟨by omega, by omega⟩ ?_
                refine wp_load (hoL5.ld1 (i := ti42) enBale hje) ?_
                refine wp_new ?_
                intro bx h6 hN6
                refine wp_store hN6.here (by rfl) ?_
                intro h7 hU7
                have hc7 : Chg [] h5 h7 := hU7.chgGe (hN6.chg []) hN6.le
                have y7 := (y5.new hN6).upd hU7 (by simp) (y5.ne hN6.le)
                have hq7 : BalOk (bx :: M) h7 r q := (hq5.push hN6.le).ext hc7
                have hmbx : mb ∉ [bx] := fun hm => by
                  have h1 := List.mem_singleton.1 hm
                  have h2 := hN6.le
                  have h3 := hc5.size
                  omega
                refine wp_ordD layOk mixed [bx] [(0, 5)] [3] (by kernel_rfl) ?_
                refine wp_chk hmbx ?_
                refine wp_load (ld_of (hc7.of hmb5 (by simp)) rfl) ?_
                refine wp_chk (by simp) ?_
                refine wp_store hU7.here (by rfl) ?_
                intro h8 hU8
                refine wp_store hU8.here (by rfl) ?_
                intro h9 hU9
                have hx9 : Chg [bx] h7 h9 := (hU8.chg (by simp)).trans (hU9.chg (by simp))
                have y9 := (y7.upd hU8 (by simp) (y5.ne hN6.le)).upd hU9 (by simp) (y5.ne hN6.le)
                have hq9 : BalOk (bx :: M) h9 r q := hq7.chg hx9 (by simp)
                have hll := keepAll_len (fun b => { b with state := 1, lot := m.name }) ((L.map (·.1)).take j) σ
                rw [List.length_take, List.length_map] at hll
                refine wp_load (v := vBale { r with state := 1, lot := m.name } q) (ld_of hU9.here rfl) ?_
                refine wp_call (keep_x { r with state := 1, lot := m.name } q y9 (hq9.fields _ rfl rfl) (by have := hz.bales; omega)) ?_
                rintro _ h10 ⟨p10, y10, hc10⟩
                rw [← keepAll_take (fun b => { b with state := 1, lot := m.name }) (L.map (·.1)) j r hjm] at y10
                have hcc : Chg [sb] h4 h10 := ((hc5.trans (hc7.mono (by simp))).fresh hx9 (fun k hk => .inr (by rw [List.mem_singleton] at hk; rw [hk]; exact Nat.le_trans hc5.size hN6.le))).trans hc10
                refine wp_done ⟨k - 1, by omega, j + 1, .pointer (some ⟨bx, 0, none⟩), ?_, by omega, hcc, p10, y10.sub (fun k hk => List.mem_cons_of_mem _ hk) hsbM⟩
                exact congrArg (fun z => [Value.int .i64 z, .pointer (some ⟨bx, 0, none⟩)]) (by rw [w64 (by omega) (by omega)]; omega)
              · have hj' : ¬ ((j : Int) < (L.length : Int)) := of_decide_eq_false g7
                clear g7
                rw [List.take_of_length_le (by rw [List.length_map]; omega)] at y5
                have hlots := (keepAll_rest (fun b => { b with state := 1, lot := m.name }) (L.map (·.1)) σ).1
                revert hspl y5 hlots
                generalize keepAll (fun b => { b with state := 1, lot := m.name }) (L.map (·.1)) σ = σ1
                intro hspl y5 hlots
                have hc05 : Chg [sb] h h5 := (hc04.mono (by simp)).trans hc5
                have hn5 : IntsAt [] h5 a cap m.nos := ((hn.ext hc04).offTy hc5 y4.blk (by decide)).sub (by simp)
                obtain ⟨ys, hm5, ha5⟩ := y5.ok.lots
                have hzl : ys.length < 900000 := by rw [ha5.len, hlots]; have := hz.lots; omega
                refine wp_done ?_
                show X.wp _ _ _ _ _ _ _
                refine wp_ord layOk mixed [(0, 18)] [11, 12, 14] (by kernel_rfl) ?_
                refine wp_load (ld_of y5.blk rfl) ?_
                refine wp_load (v := .string m.name) (ld_of hmb5 rfl) ?_
                refine wp_load (v := .string m.name) (ld_of hmb5 rfl) ?_
                refine wp_load (v := .slice a m.nos.length cap) (ld_of hmb5 rfl) ?_
                refine wp_callE (values_c m.nos a cap h5) ?_
                rintro _ h6 ⟨bv, rfl, hN6⟩
                refine ⟨hN6.chg _, ?_⟩
                refine wp_callE (sorted_c [] m.nos a cap bv (by omega) h6 (hn5.ext (hN6.chg [])) hN6.here) ?_
                rintro _ h7 ⟨a7, cap7, blk7, rfl, ho7, hc7, hf7⟩
                refine ⟨hc7, ?_⟩
                refine wp_new ?_
                intro bl h8 hN8
                have hc57 : Chg [] h5 h7 := (hN6.chg []).trans hc7
                have hc58 : Chg [] h5 h8 := hc57.trans (hN8.chg [])
                have y8 := y5.ext hc58
                have hf7' : Fresh h5 blk7 := hf7.back (hN6.chg []).size
                have hlot : LotAt M h8 bl ⟨m.name, sortI m.nos, false⟩ := ⟨a7, cap7, (y5.ext hc57).notM hN8.le, by
                  rw [hN8.here]
                  unfold elLot
                  rw [sortI_len]
                  rfl, (ho7.ext (hN8.chg [])).sl (hf7'.notin y5.bd)⟩
                refine wp_call (SL.mput_c M ys m.name bl p5.l h8 y8.bd (hm5.ext hc58) hzl) ?_
                rintro _ h9 ⟨q9, rfl, hc9, hm9⟩
                have y9 := y8.ext hc9
                refine wp_store y9.blk (by rfl) ?_
                intro h10 hU10
                have hx10 : Chg [sb] h9 h10 := hU10.chg (by simp)
                have hok := y9.ok.chg hx10 hsm
                have ha9 := ((ha5.mono fun _ _ z => (z.chg (hc58.trans hc9) (by simp))).ins ltS m.name (hlot.chg hc9 (by simp))).mono fun _ _ z => z.chg hx10 hsm
                have hfin : StepOk M sb h (lotF σ m) (.tuple #[.int .i64 0, .int .i64 0]) h10 := by
                  rw [hspl]
                  exact ⟨rfl, { p5 with l := q9 }, hU10.here, ⟨hok.clips, hok.names, hok.bales, ⟨_, hm9.chg hx10 hsm, ha9⟩, hok.totals⟩, (hc05.trans ((hc58.trans hc9).mono (by simp))).trans hx10⟩
                exact wp_done ⟨rfl, hfin⟩
end Go.Xe
namespace Go.Xe.II
open Go Go.Proofs
set_option maxRecDepth 20000
variable {c : World}
abbrev At (M : List Nat) (h : Hp) := TreeAt (K := Int) (V := Int) 317 ekI elInt M h
theorem len_c (M) (t : Tr Int Int) (p : Option Addr) (h : Hp) (ht : At M h t p) : Call c Tryz.prog 265 #[.pointer p] h fun v h' => v = .int .i64 t.size ∧ h' = h := by
  refine call_of layOk 9 Tryz.func265 Tryz.ntmps265 rfl rfl rfl rfl ?_
  cases t with
  | leaf =>
    obtain rfl := ht
    exact wp_brT rfl (wp_done ⟨rfl, rfl, rfl⟩)
  | node l k v r =>
    obtain ⟨b, pl, pr, rfl, hS, hb, hl, hr⟩ := ht
    exact wp_brF rfl (wp_load (ld_of hb rfl) (wp_done ⟨rfl, rfl, rfl⟩))
theorem weight_c (M) (t : Tr Int Int) (p : Option Addr) (h : Hp) (ht : At M h t p) (hs : t.size < 1000000) : Call c Tryz.prog 288 #[.pointer p] h fun v h' => v = .int .i64 (t.size + 1) ∧ h' = h := by
  refine call_of layOk 6 Tryz.func288 Tryz.ntmps288 rfl rfl rfl rfl ?_
  refine wp_call (len_c M t p h ht) ?_
  rintro _ _ ⟨rfl, rfl⟩
  exact wp_done ⟨rfl, congrArg (Value.int .i64) (w64 (by omega) (by omega)), rfl⟩
theorem light_c (M) (t t' : Tr Int Int) (p p' : Option Addr) (h : Hp) (ht : At M h t p) (ht' : At M h t' p') (hs : t.size < 1000000) (hs' : t'.size < 1000000) : Call c Tryz.prog 266 #[.pointer p, .pointer p'] h fun v h' => v = .bool (decide (t'.size + 1 ≤ 3 * (t.size + 1))) ∧ h' = h := by
  refine call_of layOk 11 Tryz.func266 Tryz.ntmps266 rfl rfl rfl rfl ?_
  refine wp_call (weight_c M t' p' h ht' hs') ?_
  rintro _ _ ⟨rfl, rfl⟩
  refine wp_call (weight_c M t p _ ht hs) ?_
  rintro _ _ ⟨rfl, rfl⟩
  refine wp_done ⟨rfl, congrArg Value.bool ?_, rfl⟩
  rw [w64 (by omega) (by omega)]
  exact decide_eq_decide.2 (by omega)
theorem turned_c (M) (t t' : Tr Int Int) (p p' : Option Addr) (h : Hp) (ht : At M h t p) (ht' : At M h t' p') (hs : t.size < 1000000) (hs' : t'.size < 1000000) : Call c Tryz.prog 267 #[.pointer p, .pointer p'] h fun v h' => v = .bool (decide (t.size + 1 < 2 * (t'.size + 1))) ∧ h' = h := by
  refine call_of layOk 11 Tryz.func267 Tryz.ntmps267 rfl rfl rfl rfl ?_
  refine wp_call (weight_c M t p h ht hs) ?_
  rintro _ _ ⟨rfl, rfl⟩
  refine wp_call (weight_c M t' p' _ ht' hs') ?_
  rintro _ _ ⟨rfl, rfl⟩
  refine wp_done ⟨rfl, congrArg Value.bool ?_, rfl⟩
  rw [w64 (by omega) (by omega)]
  exact decide_eq_decide.2 (by omega)
theorem over_c (M : List Nat) (l r : Tr Int Int) (pl pr : Option Addr) (k : Int) (v : Int) (h : Hp) (hM : Bd M h) (hl : At M h l pl) (hr : At M h r pr) (hs : l.size + r.size < 1000000) : Call c Tryz.prog 241 #[.pointer pl, .int .i64 k, Value.int .i64 v, .pointer pr] h fun x h' => ∃ p, x = .pointer p ∧ Chg [] h h' ∧ At M h' (.node l k v r) p := by
  refine call_of layOk 21 Tryz.func241 Tryz.ntmps241 rfl rfl rfl rfl ?_
  refine wp_call (len_c M l pl h hl) ?_
  rintro _ _ ⟨rfl, rfl⟩
  refine wp_call (len_c M r pr _ hr) ?_
  rintro _ _ ⟨rfl, rfl⟩
  refine wp_new ?_
  intro b h' hN
  refine wp_done ⟨rfl, _, rfl, hN.chg _, b, pl, pr, rfl, hM.fresh hN, ?_, hl.ext (hN.chg _), hr.ext (hN.chg _)⟩
  exact hN.here.trans (congrArg (fun z => some (Obj.cells ((ekI k ++ elInt v ++ [Value.pointer pl, Value.pointer pr, z]).toArray) 317 (0, 0))) (congrArg (Value.int .i64) (size_w hs)))
theorem bal_c (M : List Nat) (l r : Tr Int Int) (pl pr : Option Addr) (k : Int) (v : Int) (h : Hp) (hM : Bd M h) (hl : At M h l pl) (hr : At M h r pr) (hs : l.size + r.size < 1000000) : Call c Tryz.prog 242 #[.pointer pl, .int .i64 k, Value.int .i64 v, .pointer pr] h fun x h' => ∃ p, x = .pointer p ∧ Chg [] h h' ∧ At M h' (bal l k v r) p := by
  refine call_of layOk 162 Tryz.func242 Tryz.ntmps242 rfl rfl rfl rfl ?_
  have hc1 := Chg.refl [] h
  refine wp_call (light_c M l r pl pr _ hl hr (by omega) (by omega)) ?_
  rintro _ _ ⟨rfl, rfl⟩
  refine wp_br (fun h1 => ?_) (fun h1 => ?_)
  · have hli : light l r = false := by simpa [light] using h1
    obtain ⟨rl, rk, rv, rr, rfl⟩ := light_node hli
    obtain ⟨b, ql, qr, rfl, hbM, hb, hrl, hrr⟩ := hr
    simp only [Tr.size] at hs
    refine wp_ord layOk mixed [(0, 8)] [] (by kernel_rfl) ?_
    repeat (first | refine wp_load (ld_of hb rfl) ?_)
    refine wp_call (turned_c M rl rr ql qr _ hrl hrr (by omega) (by omega)) ?_
    rintro _ _ ⟨rfl, rfl⟩
    refine wp_br (fun h2 => ?_) (fun h2 => ?_)
    · have htu : turned rl rr = true := h2
      refine wp_ord layOk mixed [(0, 6), (8, 19), (7, 7), (20, 21)] [7] (by kernel_rfl) ?_
      repeat (first | refine wp_load (ld_of hb rfl) ?_)
      refine wp_callE (over_c M l rl pl ql k v _ hM hl hrl (by omega)) ?_
      rintro _ h2 ⟨p2, rfl, hc2, ht2⟩
      refine ⟨hc2, ?_⟩
      refine wp_callN (over_c M (.node l k v rl) rr p2 qr rk rv h2 (hM.chg hc2) ht2 (hrr.ext hc2) (by simp only [Tr.size]; omega)) ?_
      rintro _ h3 ⟨p3, rfl, hc3, ht3⟩
      refine ⟨hc3, wp_done ⟨rfl, p3, rfl, hc1.trans (hc2.trans hc3), ?_⟩⟩
      simpa only [bal, hli, htu, if_true] using ht3
    · have htu : turned rl rr = false := h2
      obtain ⟨ml, mk, mv, mr, rfl⟩ := turned_node htu
      obtain ⟨bm, qml, qmr, rfl, hbmM, hbm, hml, hmr⟩ := hrl
      simp only [Tr.size] at hs
      repeat (first | refine wp_load (ld_of hb rfl) ?_)
      refine wp_ord layOk mixed [(0, 6), (8, 31), (7, 7), (32, 34)] [7, 32] (by kernel_rfl) ?_
      repeat (first | refine wp_load (ld_of hbm rfl) ?_ | refine wp_load (ld_of hb rfl) ?_)
      refine wp_callE (over_c M l ml pl qml k v _ hM hl hml (by omega)) ?_
      rintro _ h2 ⟨p2, rfl, hc2, ht2⟩
      refine ⟨hc2, ?_⟩
      refine wp_callE (over_c M mr rr qmr qr rk rv h2 (hM.chg hc2) (hmr.ext hc2) (hrr.ext hc2) (by omega)) ?_
      rintro _ h3 ⟨p3, rfl, hc3, ht3⟩
      refine ⟨hc3, ?_⟩
      refine wp_callN (over_c M (.node l k v ml) (.node mr rk rv rr) p2 p3 mk mv h3 ((hM.chg hc2).chg hc3) (ht2.ext hc3) ht3 (by simp only [Tr.size]; omega)) ?_
      rintro _ h4 ⟨p4, rfl, hc4, ht4⟩
      refine ⟨hc4, wp_done ⟨rfl, p4, rfl, hc1.trans (hc2.trans (hc3.trans hc4)), ?_⟩⟩
      simpa only [bal, hli, htu, if_true, Bool.false_eq_true, if_false] using ht4
  · have hli : light l r = true := by simpa [light] using h1
    refine wp_call (light_c M r l pr pl _ hr hl (by omega) (by omega)) ?_
    rintro _ _ ⟨rfl, rfl⟩
    refine wp_br (fun h1' => ?_) (fun h1' => ?_)
    · have hri : light r l = false := by simpa [light] using h1'
      obtain ⟨ll, lk, lv, lr, rfl⟩ := light_node hri
      obtain ⟨b, ql, qr, rfl, hbM, hb, hll, hlr⟩ := hl
      simp only [Tr.size] at hs
      refine wp_ord layOk mixed [(0, 8)] [] (by kernel_rfl) ?_
      repeat (first | refine wp_load (ld_of hb rfl) ?_)
      refine wp_call (turned_c M lr ll qr ql _ hlr hll (by omega) (by omega)) ?_
      rintro _ _ ⟨rfl, rfl⟩
      refine wp_br (fun h2 => ?_) (fun h2 => ?_)
      · have htu : turned lr ll = true := h2
        refine wp_ord layOk mixed [(0, 21)] [19] (by kernel_rfl) ?_
        repeat (first | refine wp_load (ld_of hb rfl) ?_)
        refine wp_callE (over_c M lr r qr pr k v _ hM hlr hr (by omega)) ?_
        rintro _ h2 ⟨p2, rfl, hc2, ht2⟩
        refine ⟨hc2, ?_⟩
        refine wp_callN (over_c M ll (.node lr k v r) ql p2 lk lv h2 (hM.chg hc2) (hll.ext hc2) ht2 (by simp only [Tr.size]; omega)) ?_
        rintro _ h3 ⟨p3, rfl, hc3, ht3⟩
        refine ⟨hc3, wp_done ⟨rfl, p3, rfl, hc1.trans (hc2.trans hc3), ?_⟩⟩
        simpa only [bal, hli, hri, htu, if_true, Bool.true_eq_false, if_false] using ht3
      · have htu : turned lr ll = false := h2
        obtain ⟨ml, mk, mv, mr, rfl⟩ := turned_node htu
        obtain ⟨bm, qml, qmr, rfl, hbmM, hbm, hml, hmr⟩ := hlr
        simp only [Tr.size] at hs
        repeat (first | refine wp_load (ld_of hb rfl) ?_)
        refine wp_ord layOk mixed [(0, 15), (17, 31), (16, 16), (32, 34)] [16, 32] (by kernel_rfl) ?_
        repeat (first | refine wp_load (ld_of hbm rfl) ?_ | refine wp_load (ld_of hb rfl) ?_)
        refine wp_callE (over_c M ll ml ql qml lk lv _ hM hll hml (by omega)) ?_
        rintro _ h2 ⟨p2, rfl, hc2, ht2⟩
        refine ⟨hc2, ?_⟩
        refine wp_callE (over_c M mr r qmr pr k v h2 (hM.chg hc2) (hmr.ext hc2) (hr.ext hc2) (by omega)) ?_
        rintro _ h3 ⟨p3, rfl, hc3, ht3⟩
        refine ⟨hc3, ?_⟩
        refine wp_callN (over_c M (.node ll lk lv ml) (.node mr k v r) p2 p3 mk mv h3 ((hM.chg hc2).chg hc3) (ht2.ext hc3) ht3 (by simp only [Tr.size]; omega)) ?_
        rintro _ h4 ⟨p4, rfl, hc4, ht4⟩
        refine ⟨hc4, wp_done ⟨rfl, p4, rfl, hc1.trans (hc2.trans (hc3.trans hc4)), ?_⟩⟩
        simpa only [bal, hli, hri, htu, if_true, Bool.true_eq_false, Bool.false_eq_true, if_false] using ht4
    · have hri : light r l = true := by simpa [light] using h1'
      refine wp_callN (over_c M l r pl pr k v _ hM hl hr hs) ?_
      rintro _ h3 ⟨p3, rfl, hc3, ht3⟩
      refine ⟨hc3, wp_done ⟨rfl, p3, rfl, hc1.trans hc3, ?_⟩⟩
      simpa only [bal, hli, hri, Bool.true_eq_false, if_false] using ht3
theorem put_c (M : List Nat) (k : Int) (v : Int) (t : Tr Int Int) : ∀ (p : Option Addr) (h : Hp), Bd M h → At M h t p → t.size < 900000 → Call c Tryz.prog 212 #[.pointer p, .int .i64 k, Value.int .i64 v] h fun x h' => ∃ p', x = .pointer p' ∧ Chg [] h h' ∧ At M h' (putT ltI k v t) p' := by
  induction t with
  | leaf =>
    intro p h hM ht hs
    obtain rfl := ht
    refine call_of layOk 78 Tryz.func212 Tryz.ntmps212 rfl rfl rfl rfl ?_
    have hc1 := Chg.refl [] h
    refine wp_brT rfl ?_
    refine wp_callN (over_c M .leaf .leaf none none k v _ hM rfl rfl (by simp [Tr.size])) ?_
    rintro _ h3 ⟨p3, rfl, hc3, ht3⟩
    exact ⟨hc3, wp_done ⟨rfl, p3, rfl, hc1.trans hc3, ht3⟩⟩
  | node l a b r ihl ihr =>
    intro p h hM ht hs
    simp only [Tr.size] at hs
    obtain ⟨bb, ql, qr, rfl, hbM, hb, hl, hr⟩ := ht
    refine call_of layOk 78 Tryz.func212 Tryz.ntmps212 rfl rfl rfl rfl ?_
    have hc1 := Chg.refl [] h
    refine wp_brF rfl ?_
    refine wp_load (ld_of hb rfl) ?_
    refine wp_br (fun h1 => ?_) (fun h1 => ?_)
    · have hk : ltI k a = true := h1
      refine wp_ord layOk mixed [(0, 5), (7, 18), (6, 6), (19, 20)] [6] (by kernel_rfl) ?_
      repeat (first | refine wp_load (ld_of hb rfl) ?_)
      refine wp_callE (ihl ql _ hM hl (by omega)) ?_
      rintro _ h2 ⟨p2, rfl, hc2, ht2⟩
      refine ⟨hc2, ?_⟩
      refine wp_callN (bal_c M (putT ltI k v l) r p2 qr a b h2 (hM.chg hc2) ht2 (hr.ext hc2) (by have := size_putT ltI k v l; omega)) ?_
      rintro _ h3 ⟨p3, rfl, hc3, ht3⟩
      refine ⟨hc3, wp_done ⟨rfl, p3, rfl, hc1.trans (hc2.trans hc3), ?_⟩⟩
      simpa only [putT, hk, if_true] using ht3
    · have hk : ltI k a = false := h1
      refine wp_load (ld_of hb rfl) ?_
      refine wp_br (fun h2 => ?_) (fun h2 => ?_)
      · have hk2 : ltI a k = true := h2
        refine wp_ord layOk mixed [(0, 20)] [18] (by kernel_rfl) ?_
        repeat (first | refine wp_load (ld_of hb rfl) ?_)
        refine wp_callE (ihr qr _ hM hr (by omega)) ?_
        rintro _ h2 ⟨p2, rfl, hc2, ht2⟩
        refine ⟨hc2, ?_⟩
        refine wp_callN (bal_c M l (putT ltI k v r) ql p2 a b h2 (hM.chg hc2) (hl.ext hc2) ht2 (by have := size_putT ltI k v r; omega)) ?_
        rintro _ h3 ⟨p3, rfl, hc3, ht3⟩
        refine ⟨hc3, wp_done ⟨rfl, p3, rfl, hc1.trans (hc2.trans hc3), ?_⟩⟩
        simpa only [putT, hk, hk2, if_true, Bool.false_eq_true, if_false] using ht3
      · have hk2 : ltI a k = false := h2
        refine wp_ord layOk mixed [(0, 11)] [] (by kernel_rfl) ?_
        repeat (first | refine wp_load (ld_of hb rfl) ?_)
        refine wp_callN (over_c M l r ql qr k v _ hM hl hr (by omega)) ?_
        rintro _ h3 ⟨p3, rfl, hc3, ht3⟩
        refine ⟨hc3, wp_done ⟨rfl, p3, rfl, hc1.trans hc3, ?_⟩⟩
        simpa only [putT, hk, hk2, Bool.false_eq_true, if_false] using ht3
theorem find_c (M : List Nat) (k : Int) (t : Tr Int Int) (p : Option Addr) (h : Hp) (ht : At M h t p) : Call c Tryz.prog 211 #[.agg #[.pointer p], .int .i64 k] h fun x h' => ∃ p', x = .pointer p' ∧ Chg [] h h' ∧ At M h' (findT ltI eqI k t) p' := by
  refine call_of layOk 33 Tryz.func211 Tryz.ntmps211 rfl rfl rfl rfl ?_
  refine wp_new ?_
  intro bm h1 hN1
  have hc1 := hN1.chg []
  refine wp_load (ld_of hN1.here rfl) ?_
  refine wp_loopG layOk [5] 8 31 rfl (fun j vals h' => ∃ t' q, vals = [.pointer q] ∧ h' = h1 ∧ At M h1 t' q ∧ findT ltI eqI k t' = findT ltI eqI k t ∧ j = t'.size) t.size ⟨t, p, rfl, rfl, ht.ext hc1, rfl, rfl⟩ ?_
  rintro j g vals h' - ⟨t', q, rfl, rfl, ht', hf, rfl⟩
  cases t' with
  | leaf =>
    obtain rfl := ht'
    repeat refine wp_brF rfl ?_
    refine wp_done ?_
    show X.wp _ _ _ _ _ _ _
    exact wp_done ⟨rfl, _, rfl, hc1, by rw [← hf]; rfl⟩
  | node l a b r =>
    obtain ⟨bb, ql, qr, rfl, hbM, hb, hl, hr⟩ := id ht'
    repeat (first | refine wp_brT rfl ?_ | refine wp_load (ld_of hb rfl) ?_)
    refine wp_br (fun h1 => ?_) (fun h1 => ?_)
    · have he : eqI a k = false := by simpa [eqI] using h1
      refine wp_load (ld_of hb rfl) ?_
      refine wp_br (fun h2 => ?_) (fun h2 => ?_)
      · refine wp_load (ld_of hb rfl) ?_
        have hk : ltI k a = true := h2
        refine wp_done ⟨l.size, by simp only [Tr.size]; omega, l, ql, rfl, rfl, hl, ?_, rfl⟩
        rw [← hf]; simp only [findT, he, hk, Bool.false_eq_true, if_false, if_true]
      · refine wp_load (ld_of hb rfl) ?_
        have hk : ltI k a = false := h2
        refine wp_done ⟨r.size, by simp only [Tr.size]; omega, r, qr, rfl, rfl, hr, ?_, rfl⟩
        rw [← hf]; simp only [findT, he, hk, Bool.false_eq_true, if_false]
    · have he : eqI a k = true := by simpa [eqI] using h1
      refine wp_done ?_
      show X.wp _ _ _ _ _ _ _
      refine wp_done ⟨rfl, _, rfl, hc1, ?_⟩
      rw [← hf]; simpa only [findT, he, if_true] using ht'
end Go.Xe.II
namespace Go.Xe.II
open Go Go.Proofs
set_option maxRecDepth 20000
variable {c : World}
abbrev Mp (M : List Nat) (h : Hp) := MapAt (K := Int) (V := Int) 317 ekI elInt ltI M h
def toldV : Tr Int Int → Value
  | .leaf => .tuple #[Value.int .i64 0, Value.int .i64 0, .bool false]
  | .node _ k v _ => .tuple #[.int .i64 k, Value.int .i64 v, .bool true]
theorem told_c (M) (t : Tr Int Int) (p : Option Addr) (h : Hp) (ht : At M h t p) : Call c Tryz.prog 210 #[.pointer p] h fun v h' => v = toldV t ∧ Chg [] h h' := by
  refine call_of layOk 17 Tryz.func210 Tryz.ntmps210 rfl rfl rfl rfl ?_
  cases t with
  | leaf =>
    obtain rfl := ht
    exact wp_brT rfl (wp_done ⟨rfl, rfl, Chg.refl _ _⟩)
  | node l k v r =>
    obtain ⟨b, pl, pr, rfl, hS, hb, hl, hr⟩ := ht
    refine wp_brF rfl ?_
    refine wp_ord layOk mixed [(0, 10)] [] (by kernel_rfl) ?_
    refine wp_load (ld_of hb rfl) ?_
    refine wp_load (ld_of hb rfl) ?_
    exact wp_done ⟨rfl, rfl, Chg.refl _ _⟩
def getV (k : Int) (xs : List (Int × Int)) : Value := match getL eqI k xs with
  | none => .tuple #[Value.int .i64 0, .bool false]
  | some v => .tuple #[Value.int .i64 v, .bool true]
theorem get_c (M) (xs : List (Int × Int)) (k : Int) (p : Option Addr) (h : Hp) (hm : Mp M h p xs) : Call c Tryz.prog 164 #[.agg #[.pointer p], .int .i64 k] h fun v h' => v = getV k xs ∧ Chg [] h h' := by
  obtain ⟨t, ht, rfl, hs⟩ := hm
  refine call_of layOk 19 Tryz.func164 Tryz.ntmps164 rfl rfl rfl rfl ?_
  refine wp_new ?_
  intro bm h1 hN1
  have hc1 := hN1.chg []
  have hc2 := hc1
  refine wp_load (ld_of hN1.here rfl) ?_
  refine wp_call (find_c M k t p _ (ht.ext hc2)) ?_
  rintro _ h3 ⟨q, rfl, hc3, hq⟩
  refine wp_call (told_c M _ q _ hq) ?_
  rintro _ h4 ⟨rfl, hc4⟩
  have hf := findT_get loI k t hs
  generalize findT ltI eqI k t = f at hf
  cases f with
  | leaf =>
    exact wp_done ⟨rfl, (by unfold getV; rw [hf]; rfl), hc2.trans (hc3.trans hc4)⟩
  | node l a b r =>
    exact wp_done ⟨rfl, (by unfold getV; rw [hf.2]; rfl), hc2.trans (hc3.trans hc4)⟩
theorem mput_c (M : List Nat) (xs : List (Int × Int)) (k : Int) (v : Int) (p : Option Addr) (h : Hp) (hM : Bd M h) (hm : Mp M h p xs) (hz : xs.length < 900000) : Call c Tryz.prog 165 #[.agg #[.pointer p], .int .i64 k, Value.int .i64 v] h fun x h' => ∃ q, x = .agg #[.pointer q] ∧ Chg [] h h' ∧ Mp M h' q (insL ltI k v xs) := by
  obtain ⟨t, ht, rfl, hs⟩ := hm
  rw [Tr.length_toL] at hz
  refine call_ofM layOk 13 Tryz.func165 Tryz.ntmps165 rfl rfl rfl ?_
  refine wp_new ?_
  intro bm h1 hN1
  have hc1 := hN1.chg []
  refine wp_new ?_
  intro bo h3 hN3
  have hc3 := hc1.trans (hN3.chg [])
  refine wp_load (ld_of (hN3.of hN1.here) rfl) ?_
  refine wp_call (put_c M k v t p _ (hM.chg hc3) (ht.ext hc3) hz) ?_
  rintro _ h4 ⟨q, rfl, hc4, hq⟩
  have ho := hc4.of hN3.here (by simp)
  refine wp_store ho (by rfl) ?_
  intro h5 hU5
  have hn : h.size ≤ bo := Nat.le_trans hc1.size hN3.le
  have hc5 := hU5.chgGe (hc3.trans hc4) hn
  refine wp_done (finM_at [_] rfl ⟨⟨_, _, _, rfl, rfl, ld_of hU5.here rfl⟩, trivial⟩ ⟨q, rfl, hc5, putT ltI k v t, ?_, toL_putT loI k v t hs, sorted_insL loI k v _ hs⟩)
  exact TreeAt.wr hU5 ho (by decide) hq
end Go.Xe.II
namespace Go.Xe.II
open Go Go.Proofs
set_option maxRecDepth 20000
variable {c : World}
def pr (x : Int × Int) : List Value := [Value.int .i64 x.1, Value.int .i64 x.2]
theorem walk_c (M : List Nat) (l : Nat) (h0 : Hp) (J : Nat → Hp → Prop) (hJ : ∀ i h, J i h → Chg M h0 h) (t : Tr Int Int) : ∀ (p : Option Addr) (a : Nat) (h : Hp), At M h0 t p → J a h →
    (∀ i x h, t.toL[i]? = some x → J (a + i) h → Yield c Tryz.prog l (pr x).toArray h fun r h' => r = .bool true ∧ J (a + i + 1) h') →
    Call c Tryz.prog 216 #[.pointer p, .pointer none, .func (.yield l) #[] #[]] h fun r h' => r = .bool true ∧ J (a + t.size) h' := by
  induction t with
  | leaf =>
    intro p a h ht ha hy
    obtain rfl := ht
    refine call_of layOk 55 Tryz.func216 Tryz.ntmps216 rfl rfl rfl rfl ?_
    exact wp_brT rfl (wp_done ⟨rfl, rfl, ha⟩)
  | node tl k v tr ihl ihr =>
    intro p a h ht ha hy
    obtain ⟨b, ql, qr, rfl, hbM, hb, hl, hr⟩ := ht
    have hl0 := Tr.length_toL tl
    refine call_of layOk 55 Tryz.func216 Tryz.ntmps216 rfl rfl rfl rfl ?_
    refine wp_brF rfl ?_
    refine wp_ord layOk mixed [(0, 11)] [] (by kernel_rfl) ?_
    repeat refine wp_brF rfl ?_
    refine wp_ord layOk mixed [(0, 27)] [] (by kernel_rfl) ?_
    refine wp_load (ld_of ((hJ _ _ ha).of hb hbM) rfl) ?_
    refine wp_call (ihl ql a h hl ha fun i x h hx => hy i x h ?_) ?_
    · have hi := (List.getElem?_eq_some_iff.1 hx).1
      simp only [Tr.toL]
      rw [List.getElem?_append_left hi]
      exact hx
    rintro _ h2 ⟨rfl, ha2⟩
    have hb2 := (hJ _ _ ha2).of hb hbM
    repeat refine wp_brT rfl ?_
    refine wp_load (ld_of hb2 rfl) ?_
    repeat refine wp_brT rfl ?_
    refine wp_load (ld_of hb2 rfl) ?_
    repeat refine wp_brT rfl ?_
    refine wp_round (hy tl.size (k, v) h2 (by simp [Tr.toL, ← hl0]) ha2) ?_
    rintro _ h3 ⟨rfl, ha3⟩
    have hb3 := (hJ _ _ ha3).of hb hbM
    repeat refine wp_brT rfl ?_
    refine wp_load (ld_of hb3 rfl) ?_
    repeat refine wp_brT rfl ?_
    refine wp_call (ihr qr (a + tl.size + 1) h3 hr ha3 fun i x h hx hj => ?_) ?_
    · have := hy (tl.size + 1 + i) x h (by
        simp only [Tr.toL]
        rw [List.getElem?_append_right (by omega), hl0, show tl.size + 1 + i - tl.size = i + 1 from by omega]
        exact hx) (by rw [show a + (tl.size + 1 + i) = a + tl.size + 1 + i from by omega]; exact hj)
      rw [show a + (tl.size + 1 + i) + 1 = a + tl.size + 1 + i + 1 from by omega] at this
      exact this
    rintro _ h4 ⟨rfl, ha4⟩
    repeat refine wp_brT rfl ?_
    refine wp_done ⟨rfl, rfl, ?_⟩
    simp only [Tr.size]
    rw [show a + (tl.size + tr.size + 1) = a + tl.size + 1 + tr.size from by omega]
    exact ha4
theorem all_c (p : Option Addr) (h : Hp) : Call c Tryz.prog 168 #[.agg #[.pointer p]] h fun v h' => ∃ b, v = .func (.func 215) #[] #[.pointer (some ⟨b, 0, none⟩)] ∧ New h h' b (.cells #[.pointer p] 240) := by
  refine call_of layOk 4 Tryz.func168 Tryz.ntmps168 rfl rfl rfl rfl ?_
  refine wp_new ?_
  intro b h' hN
  exact wp_done ⟨rfl, b, rfl, hN⟩
theorem it_c (M : List Nat) (h0 : Hp) (xs : List (Int × Int)) (p : Option Addr) (bm : Nat) (hm : Mp M h0 p xs) (hb : h0[bm]? = some (.cells #[.pointer p] 240 (0, 0))) (hbM : bm ∉ M) (l : Nat) (J : Nat → Hp → Prop) (hJ : ∀ i h, J i h → Chg M h0 h) (h : Hp) (ha : J 0 h)
    (hy : ∀ i x h, (xs.map pr)[i]? = some x → J i h → Yield c Tryz.prog l x.toArray h fun r h' => r = .bool true ∧ J (i + 1) h') :
    Call c Tryz.prog 215 #[.func (.yield l) #[] #[], .pointer (some ⟨bm, 0, none⟩)] h fun _ h' => J (xs.map pr).length h' := by
  obtain ⟨t, ht, rfl, hs⟩ := hm
  refine call_of layOk 7 Tryz.func215 Tryz.ntmps215 rfl rfl rfl rfl ?_
  refine wp_load (ld_of ((hJ _ _ ha).of hb hbM) rfl) ?_
  refine wp_call (walk_c M l h0 J hJ t p 0 h ht ha fun i x h hx hj => ?_) ?_
  · have := hy i (pr x) h (by simp [hx]) (by rw [Nat.zero_add] at hj; exact hj)
    rw [Nat.zero_add]
    exact this
  rintro _ h4 ⟨rfl, ha4⟩
  refine wp_done ⟨rfl, ?_⟩
  rw [List.length_map, Tr.length_toL, ← Nat.zero_add t.size]
  exact ha4
end Go.Xe.II
