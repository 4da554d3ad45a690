/- The move split. -/
import Derived.Test.YtebbgoklldmkiaaGreatQ28
namespace Go.Xe
open Go Go.Proofs
set_option maxRecDepth 20000
variable {c : World}
theorem not_in1 {h : Hp} {sb : Nat} {o : Obj} (hsb : h[sb]? = some o) {b : Nat} (hb : h.size ≤ b) : b ∉ [sb] := by
  intro hm
  have h5 := List.mem_singleton.1 hm
  have h7 := (Array.getElem?_eq_some_iff.1 hsb).1
  omega
theorem Bd.cons {M : List Nat} {h : Hp} (x : Bd M h) {b : Nat} (hb : b < h.size) : Bd (b :: M) h := fun m hm => by
  rcases List.mem_cons.1 hm with rfl | hm
  · exact hb
  · exact x m hm
theorem solidL_mem {l : List PartR} {p : PartR} (h : p ∈ solidL l) : p ∈ l := (List.mem_filter.1 h).1
theorem split_c (M : List Nat) (sb : Nat) (p : StP) (σ : StateR) (m : MoveR) (a : Option Addr) (cap : Nat) (h : Hp) (hM : Bd M h) (hsM : sb ∈ M) (hsb : StBlk h sb p) (hσ : StOk M h p σ) (hz : SizeW σ) (hw : FindW σ m.no) :
    Call c Tryz.prog 114 #[.pointer (some ⟨sb, 0, none⟩), vMove m a cap] h (StepOk M sb h (splitF σ m)) := by
  refine call_of layOk 65 Tryz.func114 Tryz.ntmps114 rfl rfl rfl rfl ?_
  refine wp_new ?_
  intro mb h1 hN
  have hc1 := hN.chg []
  have hmbs : mb ∉ [sb] := not_in1 hsb hN.le
  have hs : ∀ k, k ∈ [sb] → k ∈ M := fun k hk => by rcases List.mem_singleton.1 hk with rfl; exact hsM
  refine wp_load (ld_of hN.here rfl) ?_
  refine wp_new ?_
  intro bi h2 hN2
  have hc2 := hc1.trans (hN2.chg [])
  have hfind := find2_c (c := c) M [] sb p σ m.no [0] (some ⟨bi, 0, none⟩) 1 h2 (hc2.of hsb (by simp)) (hσ.ext hc2) (.inr ⟨bi, 0, _, rfl, by simp, hN2.here, Nat.le_refl _, Nat.le_refl _, rfl⟩) (by decide)
  refine wp_call hfind ?_
  rintro _ h3 ⟨q, rfl, hq3, hc3⟩
  have hok := findF_ok (bs := σ.bales) (no := m.no) (states := [0])
  have hspl : splitF σ m = splitF σ m := rfl
  conv at hspl => rhs; unfold splitF
  revert hspl hok hq3
  generalize findF σ.bales m.no [0] = f
  obtain ⟨e, r⟩ := f
  dsimp only
  intro hq3 hok hspl
  have hmb3 := (hc3.of (hN2.of hN.here) (by simp))
  refine wp_new ?_
  intro b6 h4 hN4
  refine wp_store hN4.here (by rfl) ?_
  intro h5 hU5
  have hc35 : Chg [] h3 h5 := hU5.chgGe (hN4.chg []) hN4.le
  have hc05 := (hc2.trans hc3).trans hc35
  have hmb5 := hc35.of hmb3 (by simp)
  have err : ∀ e' h6, Chg [] h h6 → splitF σ m = (0, e', σ) → StepOk M sb h (splitF σ m) (.tuple #[.int .i64 0, .int .i64 e']) h6 := fun e' h6 hc he => by
    rw [he]
    exact ⟨rfl, p, hc.of hsb (by simp), hσ.ext hc, hc.mono (by simp)⟩
  refine wp_br (fun g1 => ?_) (fun g1 => ?_)
  · have d1 : (e != 0) = true := g1
    have d1' : e ≠ 0 := by simpa using d1
    rw [if_pos d1'] at hspl
    exact wp_done ⟨rfl, err e h5 hc05 hspl⟩
  · have d1 : (e != 0) = false := g1
    have d1' : e = 0 := by simpa using d1
    obtain ⟨hg, hst⟩ := hok d1'
    have hW := hw r hg
    have hfew : r.parts.length < 900000 := Nat.lt_trans hW.few (by decide)
    have hle6 : h.size ≤ b6 := Nat.le_trans (hc2.trans hc3).size hN4.le
    have hb6M : b6 ∉ M := fun hm => by have := hM b6 hm; omega
    have hq5 : BalOk (b6 :: M) h5 r q := (hq3.push hN4.le).ext hc35
    have hσ5 : StOk (b6 :: M) h5 p σ := ((hσ.ext (hc2.trans hc3)).push hN4.le).ext hc35
    rw [if_neg (by simpa using d1')] at hspl
    refine wp_load (ld_of hmb5 rfl) ?_
    refine wp_br (fun g2 => ?_) (fun g2 => ?_)
    · have d2 : m.grams < 1 := of_decide_eq_true g2
      rw [if_pos d2] at hspl
      exact wp_done ⟨rfl, err 2 h5 hc05 hspl⟩
    · have d2 : ¬ m.grams < 1 := of_decide_eq_false g2
      rw [if_neg d2] at hspl
      refine wp_load (ld_of hmb5 rfl) ?_
      refine wp_load (v := .int .i64 r.grams) (ld_of hU5.here rfl) ?_
      refine wp_br (fun g3 => ?_) (fun g3 => ?_)
      · have d3 : m.grams ≥ r.grams := of_decide_eq_true g3
        rw [if_pos d3] at hspl
        exact wp_done ⟨rfl, err 11 h5 hc05 hspl⟩
      · have d3 : ¬ m.grams ≥ r.grams := of_decide_eq_false g3
        rw [if_neg d3] at hspl
        refine wp_call (full_c M sb p σ h5 (hc05.of hsb (by simp)) (hσ.ext hc05)) ?_
        rintro _ h6 ⟨rfl, hc6⟩
        have hc06 := hc05.trans hc6
        refine wp_br (fun g4 => ?_) (fun g4 => ?_)
        · have d4 : 512 ≤ σ.bales.length := of_decide_eq_true g4
          rw [if_pos d4] at hspl
          exact wp_done ⟨rfl, err 9 h6 hc06 hspl⟩
        · have d4 : ¬ 512 ≤ σ.bales.length := of_decide_eq_false g4
          rw [if_neg d4] at hspl
          have hmb6 := hc6.of hmb5 (by simp)
          have hb6 := hc6.of hU5.here (by simp)
          have hgr := hW.grams
          have hpo := portion_c (c := c) (b6 :: M) m.grams r.parts q.pa q.pc h6 (hq5.1.ext hc6) hW.few (by omega) (by omega) hW.parts hW.sum
          have hpl := portionL_len m.grams r.parts
          have hpb := portion_bd m.grams r.parts (by omega) (by omega) hW.parts hW.sum hfew
          revert hspl hpo hpl hpb
          generalize portionL m.grams r.parts = tk
          intro hspl hpo hpl hpb
          refine wp_load (ld_of hmb6 rfl) ?_
          refine wp_load (v := .slice q.pa r.parts.length q.pc) (ld_of hb6 rfl) ?_
          refine wp_call hpo ?_
          rintro _ h7 ⟨a8, cap8, blk8, rfl, ho8, hc7, hf8⟩
          have hc07 := hc06.trans hc7
          have hlenpos : 0 < tk.length := by
            rw [hpl]
            cases hp : r.parts with
            | nil => have := hW.sum; rw [hp] at this; simp [sumI] at this
            | cons _ _ => simp
          obtain ⟨g8, rfl, rfl⟩ := ho8.ptr (i := ti129) hlenpos
          have hg8 := hf8 g8 rfl
          have hge : h.size ≤ g8 := Nat.le_trans hc06.size hg8
          have hg8M : g8 ∉ M := fun hm => by have := hM g8 hm; omega
          have hb6lt : b6 < h6.size := (Array.getElem?_eq_some_iff.1 hb6).1
          have hMb7 : Bd (g8 :: b6 :: M) h7 := Bd.cons (Bd.cons (hM.chg hc07) (Nat.lt_of_lt_of_le hb6lt hc7.size)) (ho8.lt g8 rfl)
          have hb7 := hc7.of hb6 (by simp)
          have hmb7 := hc7.of hmb6 (by simp)
          have hq7 : BalOk (g8 :: b6 :: M) h7 r q := ((hq5.ext hc6).push hg8).ext hc7
          have hσ7 : StOk (g8 :: b6 :: M) h7 p σ := ((hσ5.ext hc6).push hg8).ext hc7
          have hless := less_c (c := c) [] r.parts tk q.pa (some ⟨g8, 0, none⟩) q.pc cap8 h7 (hq7.1.sub (by simp)) (ho8.sl (by simp)) hpl hfew hW.parts hpb
          refine wp_load (v := .slice q.pa r.parts.length q.pc) (ld_of hb7 rfl) ?_
          refine wp_call hless ?_
          rintro _ h8 ⟨a9, cap9, blk9, rfl, ho9, hc8, hf9⟩
          have hb8 := hc8.of hb7 (by simp)
          refine wp_store hb8 (by rfl) ?_
          intro h9 hU9
          have hc08 := hc07.trans hc8
          have hc09 : Chg [] h h9 := hU9.chgGe hc08 hle6
          have hmbb : mb ≠ b6 := by
            have := (Array.getElem?_eq_some_iff.1 hmb3).1
            have := hN4.le
            omega
          have hmb9 := hU9.of (hc8.of hmb7 (by simp)) hmbb
          refine wp_load (v := .int .i64 r.grams) (ld_of hU9.here rfl) ?_
          refine wp_load (ld_of hmb9 rfl) ?_
          have hwr : IntKind.i64.wrap (r.grams - m.grams) = r.grams - m.grams := w64 (by omega) (by omega)
          refine wp_store hU9.here (by rfl) ?_
          intro h10 hU10
          have hc10 : Chg [] h h10 := hU10.chgGe hc09 hle6
          have hx10 : Chg [b6] h8 h10 := (hU9.chg (by simp)).trans (hU10.chg (by simp))
          have hmb10 := hU10.of hmb9 hmbb
          have hb68 : b6 ≠ g8 := by omega
          have hb6n9 : ∀ g, blk9 = some g → g ∉ [b6] := fun g hg hm => by have := hf9 g hg; have := hc7.size; rw [List.mem_singleton] at hm; omega
          have ho8' := (ho8.ext hc8).chg hx10 (fun g hg hm => by cases hg; rw [List.mem_singleton] at hm; exact hb68 hm.symm)
          have hx10' : ∀ k, k ∈ [b6] → k ∈ g8 :: b6 :: M := fun k hk => by rw [List.mem_singleton] at hk; subst hk; simp
          have hMb10 : Bd (g8 :: b6 :: M) h10 := (hMb7.chg hc8).chg hx10
          have hq10 : BalOk (g8 :: b6 :: M) h10 { r with parts := lessL r.parts tk, grams := r.grams - m.grams } { q with pa := a9, pc := cap9 } :=
            ⟨(ho9.chg hx10 hb6n9).sl (hf9.notin hMb7), (hq7.2.ext hc8).chg hx10 hx10'⟩
          have hσ10 : StOk (g8 :: b6 :: M) h10 p σ := (hσ7.ext hc8).chg hx10 hx10'
          refine wp_load (v := vBale { r with parts := lessL r.parts tk, grams := IntKind.i64.wrap (r.grams - m.grams) } { q with pa := a9, pc := cap9 }) (ld_of hU10.here rfl) ?_
          have hsM' : sb ∈ g8 :: b6 :: M := List.mem_cons_of_mem _ (List.mem_cons_of_mem _ hsM)
          have hkeep := keep_c (c := c) (g8 :: b6 :: M) sb p σ { r with parts := lessL r.parts tk, grams := r.grams - m.grams } { q with pa := a9, pc := cap9 } h10 hMb10 hsM' (hc10.of hsb (by simp)) hσ10 hq10 (by have := hz.bales; omega)
          rw [hwr]
          refine wp_call hkeep ?_
          rintro _ h11 ⟨p11, hs11, hσ11, hc11⟩
          have hg8s : g8 ∉ [sb] := not_in1 hsb hge
          have hmb11 := hc11.of hmb10 hmbs
          have hb11 := hc11.of hU10.here (not_in1 hsb hle6)
          have ho11 := ho8'.chg hc11 (fun g hg => by cases hg; exact hg8s)
          have hcc11 : Chg [sb] h h11 := (hc10.mono (by simp)).trans hc11
          have hM11 : Bd M h11 := hM.chg hcc11
          have hz11 : (keepS σ { r with parts := lessL r.parts tk, grams := r.grams - m.grams }).bales.length < 900000 := by
            have h1 := length_insL (lt := ltI) (k := r.no) (v := { r with parts := lessL r.parts tk, grams := r.grams - m.grams }) σ.bales
            have h2 := hz.bales
            unfold keepS
            dsimp only
            omega
          have hgM : ∀ k, k ∈ [g8] → k ∈ g8 :: b6 :: M := fun k hk => by rw [List.mem_singleton] at hk; subst hk; simp
          have hs12 : ∀ h12, Chg [g8] h11 h12 → StBlk h12 sb p11 := fun h12 hc => hc.of hs11 (fun hm => hg8s (by rw [List.mem_singleton] at hm ⊢; exact hm.symm))
          have hfin : ∀ h12 bF, Chg [g8] h11 h12 → PartsOwn h12 (some ⟨g8, 0, none⟩) cap8 (solidL tk) (some g8) → IntsAt M h12 (some ⟨bF, 0, none⟩) 1 [r.no] →
              Call c Tryz.prog 157 #[.pointer (some ⟨sb, 0, none⟩), vBale ⟨0, r.kind, m.grams, solidL tk, 0, ⟨#[]⟩, [r.no]⟩ ⟨some ⟨g8, 0, none⟩, cap8, some ⟨bF, 0, none⟩, 1⟩] h12 fun v h' => ∃ i, v = .int .i64 i ∧ StepOk M sb h (splitF σ m) (.tuple #[.int .i64 i, .int .i64 0]) h' := by
            intro h12 bF hc12 hoS hF
            have hσ12 : StOk M h12 p11 (keepS σ { r with parts := lessL r.parts tk, grams := r.grams - m.grams }) := (hσ11.chg hc12 hgM).sub (fun k hk => List.mem_cons_of_mem _ (List.mem_cons_of_mem _ hk))
            refine (made_c (c := c) M sb p11 (keepS σ { r with parts := lessL r.parts tk, grams := r.grams - m.grams }) ⟨0, r.kind, m.grams, solidL tk, 0, ⟨#[]⟩, [r.no]⟩ ⟨some ⟨g8, 0, none⟩, cap8, some ⟨bF, 0, none⟩, 1⟩ h12 (hM11.chg hc12) hsM (hs12 h12 hc12) hσ12 ⟨hoS.sl (fun g hg => by cases hg; exact hg8M), hF⟩ hz11).mono ?_
            rintro v h13 ⟨rfl, p13, hs13, hσ13, hc13⟩
            refine ⟨_, rfl, ?_⟩
            rw [hspl]
            exact ⟨rfl, p13, hs13, hσ13, (hcc11.fresh hc12 (fun k hk => .inr (by rcases List.mem_singleton.1 hk with rfl; exact hge))).trans hc13⟩
          have hbD : b6 ∉ [g8] := fun hm => hb68 (List.mem_singleton.1 hm)
          have hmD : mb ∉ [g8] := fun hm => by
            have h1 := List.mem_singleton.1 hm
            have h2 := (Array.getElem?_eq_some_iff.1 hmb6).1
            omega
          have hsol := solid_c (c := c) tk (some ⟨g8, 0, none⟩) cap8 (some g8)
          refine wp_drawG layOk mixed [g8] (fun o => freesO (rs [(0, 5), (7, 8)]) (.alt 6 (seqO o (rs [(9, 13)])) (.alt 9 (seqO o (rs [(6, 6), (10, 13)])) (.non)))) [6, 9] (by kernel_rfl) [4, 5] [] rfl
            (fun vals h' => ∃ i, vals = [.int .i64 i, .int .i64 0] ∧ StepOk M sb h (splitF σ m) (.tuple #[.int .i64 i, .int .i64 0]) h') ?_ ?_
          · refine wp_chk hbD ?_
            refine wp_load (v := .agg #[.int .u8 r.kind.k0, .int .u8 r.kind.k1, .int .u8 r.kind.k2, .int .u8 r.kind.k3]) (ld_of hb11 rfl) ?_
            refine wp_chk hmD ?_
            refine wp_load (ld_of hmb11 rfl) ?_
            refine wp_chk hbD ?_
            refine wp_load (v := .int .i64 r.no) (ld_of hb11 rfl) ?_
            refine wp_both ?_ ?_
            · refine wp_callE (hsol h11 ho11 (by rw [hpl]; exact hfew)) ?_
              rintro _ h12 ⟨rfl, ho12, hc12⟩
              refine ⟨hc12, ?_⟩
              refine wp_new ?_
              intro bF h13 hN13
              refine wp_call (hfin h13 bF (hc12.trans (hN13.chg _)) (ho12.ext (hN13.chg [])) (.inr ⟨bF, 0, _, rfl, (hM11.chg hc12).fresh hN13, hN13.here, Nat.le_refl _, Nat.le_refl _, rfl⟩)) ?_
              rintro _ h14 ⟨i, rfl, hst⟩
              exact wp_done ⟨i, rfl, hst⟩
            · refine wp_new ?_
              intro bF h13 hN13
              refine wp_callE (hsol h13 (ho11.ext (hN13.chg [])) (by rw [hpl]; exact hfew)) ?_
              rintro _ h12 ⟨rfl, ho12, hc12⟩
              refine ⟨hc12, ?_⟩
              have hbFg : bF ∉ [g8] := fun hm => by
                have h1 := List.mem_singleton.1 hm
                have h2 := hN13.le
                have h3 := ho11.lt g8 rfl
                omega
              refine wp_call (hfin h12 bF ((hN13.chg _).trans hc12) ho12 (.inr ⟨bF, 0, _, rfl, hM11.fresh hN13, hc12.of hN13.here hbFg, Nat.le_refl _, Nat.le_refl _, rfl⟩)) ?_
              rintro _ h14 ⟨i, rfl, hst⟩
              exact wp_done ⟨i, rfl, hst⟩
          · rintro ρ0 _ h14 ⟨i, rfl, hst⟩
            exact wp_done ⟨rfl, hst⟩
end Go.Xe
