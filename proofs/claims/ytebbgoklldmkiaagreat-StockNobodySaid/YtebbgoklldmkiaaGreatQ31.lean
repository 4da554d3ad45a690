/- The moves waste, core, weigh. -/
import Derived.Test.YtebbgoklldmkiaaGreatQ30
namespace Go.Xe
open Go Go.Proofs
set_option maxRecDepth 20000
variable {c : World}
theorem wasteF_eq (σ : StateR) (m : MoveR) : wasteF σ m = if (turnF σ m.no 0 3).2.1 ≠ 0 then (0, (turnF σ m.no 0 3).2.1, σ) else (0, 0, tellAll wasteT (((getL eqI m.no (turnF σ m.no 0 3).2.2.bales).map (·.parts)).getD []) (turnF σ m.no 0 3).2.2) := rfl
theorem turnF_err {σ : StateR} {no x z : Int} (h : (turnF σ no x z).2.1 ≠ 0) : (turnF σ no x z).2.2 = σ := by
  unfold turnF at *
  dsimp only at *
  split at h
  · rename_i h1; rw [if_pos h1]
  · exact absurd rfl h
theorem turnF_get {σ : StateR} {no x z : Int} (hk : KeyW σ no) (h : (turnF σ no x z).2.1 = 0) : ∃ r, getL eqI no σ.bales = some r ∧ getL eqI no (turnF σ no x z).2.2.bales = some { r with state := z } ∧ (turnF σ no x z).2.2 = keepS σ { r with state := z } ∧ r.state = x := by
  unfold turnF at *
  dsimp only at *
  split at h
  · rename_i h1; exact absurd h h1
  · rename_i h1
    rw [if_neg h1]
    obtain ⟨h2, h3⟩ := findF_ok (show (findF σ.bales no [x]).1 = 0 from by simpa using h1)
    refine ⟨_, h2, ?_, rfl, by simpa using h3⟩
    have := hk _ h2
    unfold keepS
    dsimp only
    rw [this]
    exact get_ins_same loI _ _ _
theorem waste_x (M : List Nat) (sb : Nat) (p : StP) (σ : StateR) (m : MoveR) (a : Option Addr) (cap : Nat) (h : Hp) (y : SC M sb h p σ) (hz : SizeW σ) (hk : KeyW σ m.no) (hw : FindW σ m.no) :
    Call c Tryz.prog 120 #[.pointer (some ⟨sb, 0, none⟩), vMove m a cap] h (StepOk M sb h (wasteF σ m)) := by
  have hwf := wasteF_eq σ m
  have hte := turnF_err (σ := σ) (no := m.no) (x := 0) (z := 3)
  have htg := turnF_get (x := 0) (z := 3) hk
  have htu := fun h1 (y1 : SC M sb h1 p σ) => turn_x (c := c) M sb p σ m.no 0 3 h1 y1 hz
  revert hwf hte htg htu
  generalize turnF σ m.no 0 3 = t
  obtain ⟨n, e, σ1⟩ := t
  dsimp only
  intro hwf hte htg htu
  refine call_of layOk 47 Tryz.func120 Tryz.ntmps120 rfl rfl rfl rfl ?_
  refine wp_new ?_
  intro mb h1 hN
  refine wp_load (ld_of hN.here rfl) ?_
  refine wp_call (htu h1 (y.ext (hN.chg []))) ?_
  rintro _ h2 ⟨rfl, p2, y2, hc2⟩
  have hc02 : Chg [sb] h h2 := (hN.chg _).trans hc2
  refine wp_br (fun g1 => ?_) (fun g1 => ?_)
  · have d1 : (e != 0) = true := g1
    have d1' : e ≠ 0 := by simpa using d1
    rw [if_pos d1'] at hwf
    have := hte d1'
    subst this
    exact wp_done ⟨rfl, y2.step hc02 hwf⟩
  · have d1 : (e != 0) = false := g1
    have d1' : e = 0 := by simpa using d1
    rw [if_neg (by simpa using d1')] at hwf
    obtain ⟨r, hg, hg1, hσ1, hst⟩ := htg d1'
    have hW := hw r hg
    rw [hg1] at hwf
    change wasteF σ m = (0, 0, tellAll wasteT r.parts σ1) at hwf
    have hmb2 := hc2.of hN.here (y.nin hN.le)
    obtain ⟨ys, hm, ha⟩ := y2.ok.bales
    refine wp_ord layOk mixed [(0, 11)] [] (by kernel_rfl) ?_
    refine wp_load (ld_of y2.blk rfl) ?_
    refine wp_load (ld_of hmb2 rfl) ?_
    refine wp_call (BI.get_c M ys m.no p2.b h2 hm) ?_
    rintro _ h3 ⟨rfl, hc3⟩
    rcases ha.get eqI m.no with ⟨e1, e2⟩ | ⟨bk, r', e1, e2, hb⟩
    · rw [hg1] at e2; cases e2
    · rw [hg1] at e2
      cases e2
      obtain ⟨q, hbM, hbb, hq⟩ := hb
      have hq3 := hq.ext hc3
      have hbb3 := hc3.of hbb (by simp)
      have y3 := y2.ext hc3
      have hc03 : Chg [sb] h h3 := hc02.trans (hc3.mono (by simp))
      have hz3 : σ1.totals.length = σ.totals.length := by rw [hσ1]; rfl
      unfold BI.getV
      rw [e1]
      refine wp_load (v := .slice q.pa r.parts.length q.pc) (ld_of hbb3 rfl) ?_
      have hsbM : sb ∈ M := y.mem
      have hpa : PartsAt M h3 q.pa q.pc r.parts := hq3.1
      refine wp_loopK layOk [37, 11] 38 46 rfl [0, 35, 36] [.pointer (some ⟨sb, 0, none⟩), .slice q.pa r.parts.length q.pc, .int .i64 r.parts.length] rfl [] rfl
        (fun k vals h' => ∃ (j : Nat) (u : Value), vals = [.int .i64 j, u] ∧ j + k = r.parts.length ∧ Chg [sb] h3 h' ∧ ∃ p', SC M sb h' p' (tellAll wasteT (r.parts.take j) σ1)) r.parts.length ⟨0, undef, rfl, by omega, Chg.refl _ _, p2, y3⟩ ?_
      rintro ρ0 k g vals h4 - ⟨j, u, rfl, hjk, hc4, p4, y4⟩
      refine wp_br (fun g3 => ?_) (fun g3 => ?_)
      · have hj' : (j : Int) < (r.parts.length : Int) := of_decide_eq_true g3
        clear g3
        have hj : j < r.parts.length := by omega
        have hje := List.getElem?_eq_getElem hj
        have hfew : r.parts.length < 1000 := Nat.lt_of_lt_of_le hW.few (by decide)
        have hpa4 : PartsAt M h4 q.pa q.pc r.parts := hpa.chg hc4 (fun m hm => by rw [List.mem_singleton] at hm; rw [hm]; exact hsbM)
        obtain ⟨b, o, hqa⟩ := hpa4.ptr (i := ti129) hj
        rw [hqa] at hpa4 ⊢
        refine wp_chk ⟨by omega, by omega⟩ ?_
        refine wp_load (hpa4.ld1 (i := ti129) enPart hje) ?_
        refine wp_new ?_
        intro bx h5 hN5
        refine wp_store hN5.here (by rfl) ?_
        intro h6 hU6
        have hc6 := hU6.chgGe (hN5.chg []) hN5.le
        have hl := tellAll_len wasteT (r.parts.take j) σ1
        rw [List.length_take] at hl
        refine wp_load (v := .int .i64 r.parts[j].clip) (ld_of hU6.here rfl) ?_
        refine wp_call (tell_x (y := y4.ext hc6) r.parts[j].clip 172 [.pointer (some ⟨bx, 0, none⟩)] (wasteT r.parts[j].grams) (by have := hz.totals; omega) (fun tb h7 t hc7 hle ht =>
          wasteT_c r.parts[j] bx tb t h7 (hc7.of hU6.here (by simp)) ht)) ?_
        rintro _ h7 ⟨p7, y7, hc7⟩
        rw [← tellAll_take] at y7
        refine wp_done ⟨k - 1, by omega, j + 1, .pointer (some ⟨bx, 0, none⟩), ?_, by omega, (hc4.trans (hc6.mono (by simp))).trans hc7, p7, y7⟩
        exact congrArg (fun z => [Value.int .i64 z, .pointer (some ⟨bx, 0, none⟩)]) (by rw [w64 (by omega) (by omega)]; omega)
      · have hj' : ¬ ((j : Int) < (r.parts.length : Int)) := of_decide_eq_false g3
        clear g3
        rw [List.take_of_length_le (by omega)] at y4
        have hfin := y4.step (hc03.trans hc4) hwf
        refine wp_done ?_
        show X.wp _ _ _ _ _ _ _
        exact wp_done ⟨rfl, hfin⟩

theorem core_x (M : List Nat) (sb : Nat) (p : StP) (σ : StateR) (m : MoveR) (a : Option Addr) (cap : Nat) (h : Hp) (y : SC M sb h p σ) (hz : SizeW σ) (hw : FindW σ m.no) :
    Call c Tryz.prog 116 #[.pointer (some ⟨sb, 0, none⟩), vMove m a cap] h (StepOk M sb h (coreF σ m)) := by
  refine call_of layOk 64 Tryz.func116 Tryz.ntmps116 rfl rfl rfl rfl ?_
  refine wp_new ?_
  intro mb h1 hN
  have hc1 := hN.chg []
  refine wp_load (ld_of hN.here rfl) ?_
  refine wp_new ?_
  intro bi h2 hN2
  have hc2 := hc1.trans (hN2.chg [])
  have hfind := find_x (c := c) [] m.no [0, 1] (some ⟨bi, 0, none⟩) 2 (y.ext hc2) (.inr ⟨bi, 0, _, rfl, by simp, hN2.here, Nat.le_refl _, Nat.le_refl _, rfl⟩) (by simp)
  refine wp_call hfind ?_
  rintro _ h3 ⟨q, rfl, hq3, hc3⟩
  have hok := findF_ok (bs := σ.bales) (no := m.no) (states := [0, 1])
  have hspl : coreF σ m = coreF σ m := rfl
  conv at hspl => rhs; unfold coreF
  revert hspl hok hq3
  generalize findF σ.bales m.no [0, 1] = f
  obtain ⟨e, r⟩ := f
  dsimp only
  intro hq3 hok hspl
  have hmb3 := hc3.of (hN2.of hN.here) (by simp)
  refine wp_new ?_
  intro b6 h4 hN4
  refine wp_store hN4.here (by rfl) ?_
  intro h5 hU5
  have hc03 := hc2.trans hc3
  have y3 := y.ext hc03
  have hc35 : Chg [] h3 h5 := hU5.chgGe (hN4.chg []) hN4.le
  have hc05 := hc03.trans hc35
  have hmb5 := hc35.of hmb3 (by simp)
  have y5 := (y3.new hN4).upd hU5 (by simp) (y3.ne hN4.le)
  refine wp_br (fun g1 => ?_) (fun g1 => ?_)
  · have d1 : (e != 0) = true := g1
    have d1' : e ≠ 0 := by simpa using d1
    rw [if_pos d1'] at hspl
    exact wp_done ⟨rfl, (y.ext hc05).step (hc05.mono (by simp)) hspl⟩
  · have d1 : (e != 0) = false := g1
    have d1' : e = 0 := by simpa using d1
    obtain ⟨hg, hst⟩ := hok d1'
    have hW := hw r hg
    have hfew : r.parts.length < 1000 := Nat.lt_of_lt_of_le hW.few (by decide)
    have hgr := hW.grams
    have hle6 : h.size ≤ b6 := Nat.le_trans hc03.size hN4.le
    have hq5 : BalOk (b6 :: M) h5 r q := (hq3.push hN4.le).ext hc35
    rw [if_neg (by simpa using d1')] at hspl
    refine wp_load (ld_of hmb5 rfl) ?_
    refine wp_br (fun g2 => ?_) (fun g2 => ?_)
    · have d2 : m.grams < 1 := of_decide_eq_true g2
      rw [if_pos d2] at hspl
      exact wp_done ⟨rfl, (y.ext hc05).step (hc05.mono (by simp)) hspl⟩
    · have d2 : ¬ m.grams < 1 := of_decide_eq_false g2
      rw [if_neg d2] at hspl
      refine wp_load (ld_of hmb5 rfl) ?_
      refine wp_load (v := .int .i64 r.grams) (ld_of hU5.here rfl) ?_
      refine wp_br (fun g3 => ?_) (fun g3 => ?_)
      · have d3 : m.grams ≥ r.grams := of_decide_eq_true g3
        rw [if_pos d3] at hspl
        exact wp_done ⟨rfl, (y.ext hc05).step (hc05.mono (by simp)) hspl⟩
      · have d3 : ¬ m.grams ≥ r.grams := of_decide_eq_false g3
        rw [if_neg d3] at hspl
        have hpo := portion_c (c := c) (b6 :: M) m.grams r.parts q.pa q.pc h5 hq5.1 hW.few (by omega) (by omega) hW.parts hW.sum
        have hpl := portionL_len m.grams r.parts
        have hpb := portion_bd m.grams r.parts (by omega) (by omega) hW.parts hW.sum (by omega)
        revert hspl hpo hpl hpb
        generalize portionL m.grams r.parts = tk
        intro hspl hpo hpl hpb
        refine wp_load (ld_of hmb5 rfl) ?_
        refine wp_load (v := .slice q.pa r.parts.length q.pc) (ld_of hU5.here rfl) ?_
        refine wp_call hpo ?_
        rintro _ h7 ⟨a8, cap8, blk8, rfl, ho8, hc7, hf8⟩
        have hc07 := hc05.trans hc7
        have hb7 := hc7.of hU5.here (by simp)
        have hmb7 := hc7.of hmb5 (by simp)
        have hq7 : BalOk (b6 :: M) h7 r q := hq5.ext hc7
        have y7 := y5.ext hc7
        have hsM : sb ∈ b6 :: M := y5.mem
        have hmbs : mb ∉ [sb] := y.nin hN.le
        have hb6s : b6 ∉ [sb] := y.nin hle6
        have hs8 : ∀ g, blk8 = some g → g ∉ [sb] := fun g hg => y.nin (Nat.le_trans hc05.size (hf8 g hg))
        refine wp_loopK layOk [40, 10] 41 49 rfl [0, 3, 6, 8, 38, 39] [.pointer (some ⟨sb, 0, none⟩), .pointer (some ⟨mb, 0, none⟩), .pointer (some ⟨b6, 0, none⟩), .slice a8 tk.length cap8, .slice a8 tk.length cap8, .int .i64 tk.length] rfl [] rfl
          (fun k vals h' => ∃ (j : Nat) (u : Value), vals = [.int .i64 j, u] ∧ j + k = tk.length ∧ Chg [sb] h7 h' ∧ ∃ p', SC (b6 :: M) sb h' p' (tellAll coreT (tk.take j) σ)) tk.length ⟨0, undef, rfl, by omega, Chg.refl _ _, p, y7⟩ ?_
        rintro ρ0 k g vals h8 - ⟨j, u, rfl, hjk, hc8, p8, y8⟩
        have ho8' : PartsOwn h8 a8 cap8 tk blk8 := ho8.chg hc8 hs8
        refine wp_br (fun g4 => ?_) (fun g4 => ?_)
        · have hj' : (j : Int) < (tk.length : Int) := of_decide_eq_true g4
          clear g4
          have hj : j < tk.length := by omega
          have hje := List.getElem?_eq_getElem hj
          obtain ⟨b, hqa, hbb⟩ := ho8'.ptr (i := ti129) hj
          rw [hqa] at ho8' ⊢
          refine wp_chk ⟨by omega, by omega⟩ ?_
          refine wp_load (ho8'.ld1 (i := ti129) enPart hje) ?_
          refine wp_new ?_
          intro bx h9 hN9
          refine wp_store hN9.here (by rfl) ?_
          intro h10 hU10
          have hc10 := hU10.chgGe (hN9.chg []) hN9.le
          have hl := tellAll_len coreT (tk.take j) σ
          rw [List.length_take] at hl
          refine wp_load (v := .int .i64 tk[j].clip) (ld_of hU10.here rfl) ?_
          refine wp_call (tell_x (y := y8.ext hc10) tk[j].clip 169 [.pointer (some ⟨bx, 0, none⟩)] (coreT tk[j].grams) (by have := hz.totals; omega) (fun tb h7 t hc7 hle ht =>
            coreT_c tk[j] bx tb t h7 (hc7.of hU10.here (by simp)) ht)) ?_
          rintro _ h11 ⟨p11, y11, hc11⟩
          rw [← tellAll_take] at y11
          refine wp_done ⟨k - 1, by omega, j + 1, .pointer (some ⟨bx, 0, none⟩), ?_, by omega, (hc8.trans (hc10.mono (by simp))).trans hc11, p11, y11⟩
          exact congrArg (fun z => [Value.int .i64 z, .pointer (some ⟨bx, 0, none⟩)]) (by rw [w64 (by omega) (by omega)]; omega)
        · have hj' : ¬ ((j : Int) < (tk.length : Int)) := of_decide_eq_false g4
          clear g4
          rw [List.take_of_length_le (by omega)] at y8
          have hb8 := hc8.of hb7 hb6s
          have hmb8 := hc8.of hmb7 hmbs
          have hc08 : Chg [sb] h h8 := (hc07.mono (by simp)).trans hc8
          have hsm : ∀ k, k ∈ [sb] → k ∈ b6 :: M := fun k hk => by rw [List.mem_singleton] at hk; rw [hk]; exact hsM
          have hq8 : BalOk (b6 :: M) h8 r q := hq7.chg hc8 hsm
          have hless := less_c (c := c) [] r.parts tk q.pa a8 q.pc cap8 h8 (hq8.1.sub (by simp)) (ho8'.sl (by simp)) hpl (by omega) hW.parts hpb
          have hzl : (tellAll coreT tk σ).bales.length < 900000 := by rw [tellAll_bales]; have := hz.bales; omega
          have hwr : IntKind.i64.wrap (r.grams - m.grams) = r.grams - m.grams := w64 (by omega) (by omega)
          have hb68 : h8.size > b6 := (Array.getElem?_eq_some_iff.1 hb8).1
          refine wp_done ?_
          show X.wp _ _ _ _ _ _ _
          refine wp_load (v := .slice q.pa r.parts.length q.pc) (ld_of hb8 rfl) ?_
          refine wp_call hless ?_
          rintro _ h9 ⟨a9, cap9, blk9, rfl, ho9, hc9, hf9⟩
          have hb9 := hc9.of hb8 (by simp)
          have hmb9 := hc9.of hmb8 (by simp)
          have hmbb : mb ≠ b6 := by
            have := (Array.getElem?_eq_some_iff.1 hmb3).1
            have := hN4.le
            omega
          have y9 := y8.ext hc9
          refine wp_store hb9 (by rfl) ?_
          intro h10 hU10
          refine wp_load (v := .int .i64 r.grams) (ld_of hU10.here rfl) ?_
          refine wp_load (ld_of (hU10.of hmb9 hmbb) rfl) ?_
          refine wp_store hU10.here (by rfl) ?_
          intro h11 hU11
          have y11 := (y9.upd hU10 (by simp) (y3.ne hN4.le)).upd hU11 (by simp) (y3.ne hN4.le)
          have hx : Chg [b6] h9 h11 := (hU10.chg (by simp)).trans (hU11.chg (by simp))
          have hb6n9 : ∀ g, blk9 = some g → g ∉ [b6] := fun g hg hm => by have := hf9 g hg; rw [List.mem_singleton] at hm; omega
          have hq11 : BalOk (b6 :: M) h11 { r with parts := lessL r.parts tk, grams := r.grams - m.grams } { q with pa := a9, pc := cap9 } :=
            ⟨(ho9.chg hx hb6n9).sl (hf9.notin y8.bd), (hq8.2.ext hc9).chg hx (fun k hk => by rw [List.mem_singleton] at hk; simp [hk])⟩
          have hcc : Chg [sb] h h11 := by
            refine (hc08.trans (hc9.mono (by simp))).fresh hx (fun k hk => .inr ?_)
            rw [List.mem_singleton] at hk
            rw [hk]
            exact hle6
          refine wp_load (v := vBale { r with parts := lessL r.parts tk, grams := IntKind.i64.wrap (r.grams - m.grams) } { q with pa := a9, pc := cap9 }) (ld_of hU11.here rfl) ?_
          rw [hwr]
          refine wp_call (keep_x _ _ y11 hq11 hzl) ?_
          rintro _ h12 ⟨p12, y12, hc12⟩
          have hfin := (y12.sub (fun k hk => List.mem_cons_of_mem _ hk) y.mem).step (hcc.trans hc12) hspl
          exact wp_done ⟨rfl, hfin⟩
end Go.Xe
