/- The move weigh. -/
import Derived.Test.YtebbgoklldmkiaaGreatQ31
namespace Go.Xe
open Go Go.Proofs
set_option maxRecDepth 20000
variable {c : World}
theorem weigh_x (M : List Nat) (sb : Nat) (p : StP) (σ : StateR) (m : MoveR) (a : Option Addr) (cap : Nat) (h : Hp) (y : SC M sb h p σ) (hz : SizeW σ) (hw : FindW σ m.no) :
    Call c Tryz.prog 117 #[.pointer (some ⟨sb, 0, none⟩), vMove m a cap] h (StepOk M sb h (weighF σ m)) := by
  refine call_of layOk 69 Tryz.func117 Tryz.ntmps117 rfl rfl rfl rfl ?_
  refine wp_new ?_
  intro mb h1 hN
  have hc1 := hN.chg []
  refine wp_load (ld_of hN.here rfl) ?_
  refine wp_new ?_
  intro bi h2 hN2
  have hc2 := hc1.trans (hN2.chg [])
  have hfind := find_x (c := c) [] m.no [0, 1] (some ⟨bi, 0, none⟩) 2 (y.ext hc2) (.inr ⟨bi, 0, _, rfl, by simp, hN2.here, Nat.le_refl _, Nat.le_refl _, rfl⟩) (by simp)
  refine wp_call hfind ?_
  rintro _ h3 ⟨q, rfl, hq3, hc3⟩
  have hok := findF_ok (bs := σ.bales) (no := m.no) (states := [0, 1])
  have hspl : weighF σ m = weighF σ m := rfl
  conv at hspl => rhs; unfold weighF
  revert hspl hok hq3
  generalize findF σ.bales m.no [0, 1] = f
  obtain ⟨e, r⟩ := f
  dsimp only
  intro hq3 hok hspl
  have hmb3 := hc3.of (hN2.of hN.here) (by simp)
  refine wp_new ?_
  intro b6 h4 hN4
  refine wp_store hN4.here (by rfl) ?_
  intro h5 hU5
  have hc03 := hc2.trans hc3
  have y3 := y.ext hc03
  have hc35 : Chg [] h3 h5 := hU5.chgGe (hN4.chg []) hN4.le
  have hc05 := hc03.trans hc35
  have hmb5 := hc35.of hmb3 (by simp)
  have y5 := (y3.new hN4).upd hU5 (by simp) (y3.ne hN4.le)
  refine wp_br (fun g1 => ?_) (fun g1 => ?_)
  · have d1 : (e != 0) = true := g1
    have d1' : e ≠ 0 := by simpa using d1
    rw [if_pos d1'] at hspl
    exact wp_done ⟨rfl, (y.ext hc05).step (hc05.mono (by simp)) hspl⟩
  · have d1 : (e != 0) = false := g1
    have d1' : e = 0 := by simpa using d1
    obtain ⟨hg, hst⟩ := hok d1'
    have hW := hw r hg
    have hfew : r.parts.length < 1000 := Nat.lt_of_lt_of_le hW.few (by decide)
    have hgr := hW.grams
    have hle6 : h.size ≤ b6 := Nat.le_trans hc03.size hN4.le
    have hq5 : BalOk (b6 :: M) h5 r q := (hq3.push hN4.le).ext hc35
    rw [if_neg (by simpa using d1')] at hspl
    refine wp_load (ld_of hmb5 rfl) ?_
    refine wp_br (fun g2 => ?_) (fun g2 => ?_)
    · have d2 : m.grams < 1 := of_decide_eq_true g2
      repeat (first | refine wp_brT rfl ?_ | refine wp_brF rfl ?_)
      rw [if_pos d2] at hspl
      exact wp_done ⟨rfl, (y.ext hc05).step (hc05.mono (by simp)) hspl⟩
    · have d2 : ¬ m.grams < 1 := of_decide_eq_false g2
      repeat (first | refine wp_brT rfl ?_ | refine wp_brF rfl ?_)
      rw [if_neg d2] at hspl
      refine wp_load (ld_of hmb5 rfl) ?_
      repeat (first | refine wp_brT rfl ?_ | refine wp_brF rfl ?_)
      refine wp_br (fun g3 => ?_) (fun g3 => ?_)
      · have d3 : m.grams > 1073741824 := of_decide_eq_true g3
        rw [if_pos d3] at hspl
        exact wp_done ⟨rfl, (y.ext hc05).step (hc05.mono (by simp)) hspl⟩
      · have d3 : ¬ m.grams > 1073741824 := of_decide_eq_false g3
        rw [if_neg d3] at hspl
        have hpo := portion_c (c := c) (b6 :: M) m.grams r.parts q.pa q.pc h5 hq5.1 hW.few (by omega) (by omega) hW.parts hW.sum
        have hpl := portionL_len m.grams r.parts
        have hpb := portion_bd m.grams r.parts (by omega) (by omega) hW.parts hW.sum (by omega)
        revert hspl hpo hpl hpb
        generalize portionL m.grams r.parts = tk
        intro hspl hpo hpl hpb
        refine wp_load (ld_of hmb5 rfl) ?_
        refine wp_load (v := .slice q.pa r.parts.length q.pc) (ld_of hU5.here rfl) ?_
        refine wp_call hpo ?_
        rintro _ h7 ⟨a8, cap8, blk8, rfl, ho8, hc7, hf8⟩
        have hlenpos : 0 < tk.length := by
          rw [hpl]
          cases hp : r.parts with
          | nil => have := hW.sum; rw [hp] at this; simp [sumI] at this
          | cons _ _ => simp
        obtain ⟨g8, rfl, rfl⟩ := ho8.ptr (i := ti129) hlenpos
        have hg8 := hf8 g8 rfl
        have hc07 := hc05.trans hc7
        have hb7 := hc7.of hU5.here (by simp)
        have hmb7 := hc7.of hmb5 (by simp)
        have hq7 : BalOk (g8 :: b6 :: M) h7 r q := (hq5.push hg8).ext hc7
        have y7 : SC (g8 :: b6 :: M) sb h7 p σ := y5.push hg8 hc7 (ho8.lt g8 rfl)
        have hsM : sb ∈ g8 :: b6 :: M := y7.mem
        have hmbs : mb ∉ [sb] := y.nin hN.le
        have hb6s : b6 ∉ [sb] := y.nin hle6
        have hg8h : h.size ≤ g8 := Nat.le_trans hc05.size hg8
        have hs8 : ∀ g, some g8 = some g → g ∉ [sb] := fun g hg => by cases hg; exact y.nin hg8h
        have hb6lt : b6 < h5.size := (Array.getElem?_eq_some_iff.1 hU5.here).1
        have hmblt : mb < h5.size := (Array.getElem?_eq_some_iff.1 hmb5).1
        have hmbb : mb ≠ b6 := by
          have := (Array.getElem?_eq_some_iff.1 hmb3).1
          have := hN4.le
          omega
        have hsl : (subG tk r.parts).length = tk.length := subG_len _ _ hpl.symm
        have hsm : ∀ k, k ∈ [sb] → k ∈ g8 :: b6 :: M := fun k hk => by rw [List.mem_singleton] at hk; rw [hk]; exact hsM
        refine wp_loopK layOk [40, 9, 10, 11] 41 59 rfl [0, 3, 6, 8, 38, 39] [.pointer (some ⟨sb, 0, none⟩), .pointer (some ⟨mb, 0, none⟩), .pointer (some ⟨b6, 0, none⟩), .slice (some ⟨g8, 0, none⟩) tk.length cap8, .slice (some ⟨g8, 0, none⟩) tk.length cap8, .int .i64 tk.length] rfl [] rfl
          (fun k vals h' => ∃ (j : Nat) (u1 u2 u3 : Value), vals = [.int .i64 j, u1, u2, u3] ∧ j + k = tk.length ∧ Chg [sb] h7 h' ∧ ∃ p', SC (g8 :: b6 :: M) sb h' p' (tellAll weighT ((subG tk r.parts).take j) σ)) tk.length ⟨0, undef, undef, undef, rfl, by omega, Chg.refl _ _, p, y7⟩ ?_
        rintro ρ0 k g vals h8 - ⟨j, u1, u2, u3, rfl, hjk, hc8, p8, y8⟩
        have ho8' : PartsOwn h8 (some ⟨g8, 0, none⟩) cap8 tk (some g8) := ho8.chg hc8 hs8
        have hb8 := hc8.of hb7 hb6s
        have hq8 : BalOk (g8 :: b6 :: M) h8 r q := hq7.chg hc8 hsm
        refine wp_br (fun g4 => ?_) (fun g4 => ?_)
        · have hj' : (j : Int) < (tk.length : Int) := of_decide_eq_true g4
          clear g4
          have hj : j < tk.length := by omega
          have hjr : j < r.parts.length := by omega
          have hje := List.getElem?_eq_getElem hj
          have hjre := List.getElem?_eq_getElem hjr
          have hw1 := hpb _ (List.getElem_mem hj)
          have hw2 := hW.parts _ (List.getElem_mem hjr)
          have hjs : j < (subG tk r.parts).length := by omega
          have hse := subG_get tk r.parts j _ _ hje hjre
          have hse2 : (subG tk r.parts)[j] = ⟨tk[j].clip, tk[j].grams - r.parts[j].grams⟩ := by
            rw [List.getElem?_eq_getElem hjs] at hse
            exact Option.some.inj hse
          refine wp_chk ⟨by omega, by omega⟩ ?_
          refine wp_load (ho8'.ld1 (i := ti129) enPart hje) ?_
          refine wp_new ?_
          intro bx h9 hN9
          refine wp_store hN9.here (by rfl) ?_
          intro h10 hU10
          have hc10 := hU10.chgGe (hN9.chg []) hN9.le
          have hb10 := hc10.of hb8 (by simp)
          have hpa10 : PartsAt (g8 :: b6 :: M) h10 q.pa q.pc r.parts := hq8.1.ext hc10
          obtain ⟨bq, oq, hqa⟩ := hpa10.ptr (i := ti129) hjr
          rw [hqa] at hpa10
          refine wp_ord layOk mixed [(0, 10)] [9] (by kernel_rfl) ?_
          refine wp_load (v := .int .i64 tk[j].grams) (ld_of hU10.here rfl) ?_
          refine wp_load (v := .slice (some ⟨bq, oq, none⟩) r.parts.length q.pc) (by rw [← hqa]; exact ld_of hb10 rfl) ?_
          refine wp_chk ⟨by omega, by omega⟩ ?_
          refine wp_load (hpa10.ldF (i := ti129) enPart (tf := ti3) rfl hjre (k := 1) rfl) ?_
          have hwr : IntKind.i64.wrap (tk[j].grams - r.parts[j].grams) = tk[j].grams - r.parts[j].grams := w64 (by omega) (by omega)
          refine wp_new ?_
          intro bg h11 hN11
          refine wp_store (cs := [.int .i64 0]) hN11.here (by rfl) ?_
          intro h12 hU12
          have hc12 := hU12.chgGe (hN11.chg []) hN11.le
          have hl := tellAll_len weighT ((subG tk r.parts).take j) σ
          rw [List.length_take] at hl
          have hbg : h12[bg]? = some (.cells #[.int .i64 (tk[j].grams - r.parts[j].grams)] 3 (0, 0)) := by
            rw [hU12.here]
            exact congrArg (fun z => some (Obj.cells #[Value.int .i64 z] 3 (0, 0))) hwr
          refine wp_load (v := .int .i64 tk[j].clip) (ld_of (hc12.of hU10.here (by simp)) rfl) ?_
          refine wp_call (tell_x (y := (y8.ext hc10).ext hc12) tk[j].clip 170 [.pointer (some ⟨bg, 0, none⟩)] (weighT (tk[j].grams - r.parts[j].grams)) (by have := hz.totals; omega) (fun tb h7 t hc7 hle ht =>
            weighT_c (tk[j].grams - r.parts[j].grams) bg tb t h7 (hc7.of hbg (by simp)) ht)) ?_
          rintro _ h13 ⟨p13, y13, hc13⟩
          have e13 := tellAll_take weighT (subG tk r.parts) j hjs σ
          rw [hse2] at e13
          rw [← e13] at y13
          refine wp_done ⟨k - 1, by omega, j + 1, .int .i64 j, .pointer (some ⟨bx, 0, none⟩), .pointer (some ⟨bg, 0, none⟩), ?_, by omega, (hc8.trans ((hc10.trans hc12).mono (by simp))).trans hc13, p13, y13⟩
          exact congrArg (fun z => [Value.int .i64 z, .int .i64 j, .pointer (some ⟨bx, 0, none⟩), .pointer (some ⟨bg, 0, none⟩)]) (by rw [w64 (by omega) (by omega)]; omega)
        · have hj' : ¬ ((j : Int) < (tk.length : Int)) := of_decide_eq_false g4
          clear g4
          rw [List.take_of_length_le (by omega)] at y8
          have hmb8 := hc8.of hmb7 hmbs
          have hc08 : Chg [sb] h h8 := (hc07.mono (by simp)).trans hc8
          have hzl : (tellAll weighT (subG tk r.parts) σ).bales.length < 900000 := by rw [tellAll_bales]; have := hz.bales; omega
          have hmD : mb ∉ [g8, b6] := fun hm => by
            rcases List.mem_cons.1 hm with hm | hm
            · omega
            · exact hmbb (List.mem_singleton.1 hm)
          have hgb : b6 ≠ g8 := by omega
          have hg8M : g8 ∉ b6 :: M := fun hm => by
            rcases List.mem_cons.1 hm with hm | hm
            · exact hgb hm.symm
            · exact y.notM hg8h hm
          refine wp_done ?_
          show X.wp _ _ _ _ _ _ _
          refine wp_ordD layOk mixed [g8, b6] [(0, 0), (2, 3), (1, 1), (4, 7)] [1, 5] (by kernel_rfl) ?_
          refine wp_chk hmD ?_
          refine wp_load (ld_of hmb8 rfl) ?_
          refine wp_callE (solid_c tk (some ⟨g8, 0, none⟩) cap8 (some g8) h8 ho8' (by omega)) ?_
          rintro _ h9 ⟨rfl, ho9, hc9⟩
          refine ⟨hc9.mono (by simp), ?_⟩
          have y9 : SC (b6 :: M) sb h9 p8 (tellAll weighT (subG tk r.parts) σ) := (y8.chg hc9 (by simp) (fun hm => y.ne hg8h (by simpa using hm))).sub (fun k hk => List.mem_cons_of_mem _ hk) y5.mem
          have hb9 := hc9.of hb8 (by simpa using hgb)
          refine wp_chk (by simp) ?_
          refine wp_store hb9 (by rfl) ?_
          intro h10 hU10
          refine wp_store hU10.here (by rfl) ?_
          intro h11 hU11
          have y11 := (y9.upd hU10 (by simp) (y3.ne hN4.le)).upd hU11 (by simp) (y3.ne hN4.le)
          have hx : Chg [b6] h9 h11 := (hU10.chg (by simp)).trans (hU11.chg (by simp))
          have hq9 : IntsAt (b6 :: M) h9 q.fa q.fc r.from_ := (hq8.2.chg hc9 (by simp)).sub (fun k hk => List.mem_cons_of_mem _ hk)
          have hq11 : BalOk (b6 :: M) h11 { r with parts := solidL tk, grams := m.grams } { q with pa := some ⟨g8, 0, none⟩, pc := cap8 } :=
            ⟨(ho9.chg hx (fun g hg hm => by cases hg; exact hgb (List.mem_singleton.1 hm).symm)).sl (fun g hg => by cases hg; exact hg8M), hq9.chg hx (fun k hk => by rw [List.mem_singleton] at hk; simp [hk])⟩
          have hcc : Chg [sb] h h11 := by
            refine (hc08.fresh hc9 (fun k hk => .inr ?_)).fresh hx (fun k hk => .inr ?_)
            · have : k = g8 := by simpa using hk
              rw [this]
              exact hg8h
            · rw [List.mem_singleton] at hk
              rw [hk]
              exact hle6
          refine wp_load (v := vBale { r with parts := solidL tk, grams := m.grams } { q with pa := some ⟨g8, 0, none⟩, pc := cap8 }) (ld_of hU11.here rfl) ?_
          refine wp_call (keep_x _ _ y11 hq11 hzl) ?_
          rintro _ h12 ⟨p12, y12, hc12⟩
          have hfin := (y12.sub (fun k hk => List.mem_cons_of_mem _ hk) y.mem).step (hcc.trans hc12) hspl
          exact wp_done ⟨rfl, hfin⟩
end Go.Xe
