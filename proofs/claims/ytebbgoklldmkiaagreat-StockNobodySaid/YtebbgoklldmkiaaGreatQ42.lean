/- Lemmas on the way: Views: At, state, missing, own, Bale. Views: Lot, Totals; a missing bale. -/
import Derived.Test.YtebbgoklldmkiaaGreatQ41
namespace Go.Xe
open Go Go.Proofs
set_option maxRecDepth 20000
variable {c : World}
def zStP : StP := ⟨none, none, none, none, none⟩
def elVw (ok : Bool) (p : StP) : List Value := [.bool ok, .pointer p.c, .pointer p.n, .pointer p.b, .pointer p.l, .pointer p.t]
/-- a view, nil, zero or of a version -/
def VwIs (h : Hp) (a : Option Addr) (p : StP) (ok : Bool) : Prop := (a = none ∧ p = zStP ∧ ok = false) ∨ ∃ b, a = some ⟨b, 0, none⟩ ∧ h[b]? = some (.cells (elVw ok p).toArray 114 (0, 0)) ∧ (ok = false → p = zStP)
def missE (ok : Bool) : Int := bif ok then 7 else 1
theorem VwIs.ext {h h' : Hp} {a : Option Addr} {p : StP} {ok : Bool} (x : Chg [] h h') (y : VwIs h a p ok) : VwIs h' a p ok := y.imp id fun ⟨b, h1, h2, h3⟩ => ⟨b, h1, x.of h2 (by simp), h3⟩
theorem at_c (x : StoP) (M : List Nat) (st : Nat) (S : StoreR) (ver : Int) (h : Hp) (y : StoreAt x M h st S) (hM : Bd M h) :
    Call c Tryz.prog 32 #[.pointer (some ⟨st, 0, none⟩), .int .i64 ver] h fun v h' => Chg [] h h' ∧
      (((ver < 0 ∨ ver > S.now) ∧ v = .tuple #[.pointer none, .int .i64 7]) ∨
       ∃ (i : Nat) (σ : StateR) (b : Nat) (p : StP), ver = i ∧ i ≤ S.now ∧ S.states[i]? = some σ ∧ v = .tuple #[.pointer (some ⟨b, 0, none⟩), .int .i64 0] ∧ h.size ≤ b ∧ h'[b]? = some (.cells (elVw true p).toArray 114 (0, 0)) ∧ StOk (b :: M) h' p σ) := by
  refine call_of layOk 30 Tryz.func32 Tryz.ntmps32 rfl rfl rfl rfl ?_
  refine wp_call (made_t y) ?_
  rintro _ h ⟨rfl, rfl⟩
  refine wp_brF rfl ?_
  refine wp_br (fun g1 => ?_) (fun g1 => ?_)
  · have d1 : ver < 0 := of_decide_eq_true g1
    repeat (first | refine wp_brT rfl ?_ | refine wp_brF rfl ?_)
    exact wp_done ⟨rfl, Chg.refl _ _, .inl ⟨.inl d1, rfl⟩⟩
  · have d1 : ¬ ver < 0 := of_decide_eq_false g1
    repeat (first | refine wp_brT rfl ?_ | refine wp_brF rfl ?_)
    refine wp_load (ld_of y.blk rfl) ?_
    repeat (first | refine wp_brT rfl ?_ | refine wp_brF rfl ?_)
    refine wp_br (fun g2 => ?_) (fun g2 => ?_)
    · have d2 : ver > (S.now : Int) := of_decide_eq_true g2
      exact wp_done ⟨rfl, Chg.refl _ _, .inl ⟨.inr d2, rfl⟩⟩
    · have d2 : ¬ ver > (S.now : Int) := of_decide_eq_false g2
      have hn := y.now
      have hl := y.stsOk.1
      have hi : ver.toNat < S.states.length := by omega
      have hip : ver.toNat < x.ps.length := by omega
      have hpe := List.getElem?_eq_getElem hip
      have hse := List.getElem?_eq_getElem hi
      have hσ := y.stsOk.2 _ _ _ hpe hse
      generalize x.ps[ver.toNat] = p at hpe hσ
      generalize S.states[ver.toNat] = σ at hse hσ
      obtain ⟨bs, hqs, hqb⟩ := y.sts.ptr (i := ti112) hip
      have hb : h[st]? = some (.cells #[.slice (some ⟨bs, 0, none⟩) x.ps.length x.cS, .slice x.aM x.qs.length x.cM, .int .i64 S.now] 95 (0, 0)) := by rw [← hqs]; exact y.blk
      have ho : StsOwn h (some ⟨bs, 0, none⟩) x.cS x.ps x.bS := by rw [← hqs]; exact y.sts
      refine wp_load (ld_of hb rfl) ?_
      refine wp_chk ⟨by omega, by omega⟩ ?_
      refine wp_load (ho.ld1 (i := ti112) enSt hpe) ?_
      refine wp_new ?_
      intro b h1 hN
      exact wp_done ⟨rfl, hN.chg [], .inr ⟨ver.toNat, σ, b, p, by omega, by omega, hse, rfl, hN.le, hN.here, (hσ.push hN.le).ext (hN.chg [])⟩⟩
theorem state_c (h : Hp) (a : Option Addr) (p : StP) (ok : Bool) (y : VwIs h a p ok) : Call c Tryz.prog 62 #[.pointer a] h fun v h' => v = vSt p ∧ Chg [] h h' := by
  refine call_ofM layOk 17 Tryz.func62 Tryz.ntmps62 rfl rfl rfl ?_
  refine wp_new ?_
  intro b2 h1 hN
  have hc := hN.chg []
  rcases y with ⟨rfl, rfl, rfl⟩ | ⟨b, rfl, hb, hz⟩
  · repeat (first | refine wp_brT rfl ?_ | refine wp_brF rfl ?_)
    refine wp_store hN.here (by rfl) ?_
    intro h2 hU
    exact wp_done (finM_at [vSt zStP] rfl ⟨⟨_, _, _, rfl, rfl, ld_of hU.here rfl⟩, trivial⟩ ⟨rfl, hU.chgGe hc hN.le⟩)
  · repeat (first | refine wp_brT rfl ?_ | refine wp_brF rfl ?_)
    have hb1 := hN.of hb
    refine wp_load (ld_of hb1 rfl) ?_
    repeat (first | refine wp_brT rfl ?_ | refine wp_brF rfl ?_)
    cases ok with
    | false =>
      rw [hz rfl] at *
      refine wp_brT rfl ?_
      refine wp_store hN.here (by rfl) ?_
      intro h2 hU
      exact wp_done (finM_at [vSt zStP] rfl ⟨⟨_, _, _, rfl, rfl, ld_of hU.here rfl⟩, trivial⟩ ⟨rfl, hU.chgGe hc hN.le⟩)
    | true =>
      refine wp_brF rfl ?_
      refine wp_load (v := vSt p) (ld_of hb1 rfl) ?_
      refine wp_store hN.here (by rfl) ?_
      intro h2 hU
      exact wp_done (finM_at [vSt p] rfl ⟨⟨_, _, _, rfl, rfl, ld_of hU.here rfl⟩, trivial⟩ ⟨rfl, hU.chgGe hc hN.le⟩)
theorem missing_c (h : Hp) (a : Option Addr) (p : StP) (ok : Bool) (y : VwIs h a p ok) : Call c Tryz.prog 83 #[.pointer a] h fun v h' => v = .int .i64 (missE ok) ∧ h' = h := by
  refine call_of layOk 12 Tryz.func83 Tryz.ntmps83 rfl rfl rfl rfl ?_
  rcases y with ⟨rfl, rfl, rfl⟩ | ⟨b, rfl, hb, hz⟩
  · repeat (first | refine wp_brT rfl ?_ | refine wp_brF rfl ?_)
    exact wp_done ⟨rfl, rfl, rfl⟩
  · repeat (first | refine wp_brT rfl ?_ | refine wp_brF rfl ?_)
    refine wp_load (ld_of hb rfl) ?_
    repeat (first | refine wp_brT rfl ?_ | refine wp_brF rfl ?_)
    cases ok with
    | false => exact wp_brT rfl (wp_done ⟨rfl, rfl, rfl⟩)
    | true => exact wp_brF rfl (wp_done ⟨rfl, rfl, rfl⟩)
/-- a bale's value in memory of its own -/
def OwnBale (h0 h : Hp) (r : BaleR) (v : Value) : Prop := ∃ (q : BalP) (bp bf : Option Nat), v = vBale r q ∧ PartsOwn h q.pa q.pc r.parts bp ∧ IntsOwn h q.fa q.fc r.from_ bf ∧ Fresh h0 bp ∧ Fresh h0 bf
theorem own_c (M : List Nat) (h : Hp) (b : Nat) (r : BaleR) (y : BaleAt M h b r) (hz : r.parts.length < 900000) (hz2 : r.from_.length < 900000) : Call c Tryz.prog 64 #[.pointer (some ⟨b, 0, none⟩)] h fun v h' => OwnBale h h' r v ∧ Chg [] h h' := by
  obtain ⟨q, hbM, hb, hq⟩ := y
  refine call_ofM layOk 20 Tryz.func64 Tryz.ntmps64 rfl rfl rfl ?_
  refine wp_new ?_
  intro b2 h1 hN1
  refine wp_load (v := vBale r q) (ld_of (hN1.of hb) rfl) ?_
  refine wp_new ?_
  intro b3 h2 hN2
  refine wp_store hN2.here (by rfl) ?_
  intro h3 hU3
  have hle3 : h.size ≤ b3 := Nat.le_trans (hN1.chg []).size hN2.le
  have hc3 : Chg [] h h3 := hU3.chgGe ((hN1.chg []).trans (hN2.chg [])) hle3
  have hb3 := hc3.of hb (by simp)
  have h12 : b2 ≠ b3 := hN2.ne hN1.here
  have hb23 := hU3.of (hN2.of hN1.here) h12
  have hl2 := (Array.getElem?_eq_some_iff.1 hb23).1
  have hl3 := (Array.getElem?_eq_some_iff.1 hU3.here).1
  refine wp_ord layOk mixed [(0, 3), (5, 8), (4, 4), (10, 10), (9, 9), (11, 13)] [4] (by kernel_rfl) ?_
  refine wp_load (v := .slice q.pa r.parts.length q.pc) (ld_of hb3 rfl) ?_
  refine wp_load (v := .slice q.fa r.from_.length q.fc) (ld_of hb3 rfl) ?_
  refine wp_callE (clone104_c M r.parts q.pa q.pc h3 (hq.1.ext hc3) hz) ?_
  rintro _ h4 ⟨a4, cap4, blk4, rfl, ho4, hc4, hf4⟩
  refine ⟨hc4, ?_⟩
  refine wp_call (clone66_c M r.from_ q.fa q.fc h4 ((hq.2.ext hc3).ext hc4) hz2) ?_
  rintro _ h5 ⟨a5, cap5, blk5, rfl, ho5, hc5, hf5⟩
  have hc35 := hc4.trans hc5
  refine wp_store (hc35.of hU3.here (by simp)) (by rfl) ?_
  intro h6 hU6
  refine wp_store hU6.here (by rfl) ?_
  intro h7 hU7
  have n4 : ∀ g, blk4 = some g → h3.size ≤ g := hf4
  have n5 : ∀ g, blk5 = some g → h3.size ≤ g := fun g hg => Nat.le_trans hc4.size (hf5 g hg)
  refine wp_load (v := vBale r ⟨a4, cap4, a5, cap5⟩) (ld_of hU7.here rfl) ?_
  refine wp_store (hU7.of (hU6.of (hc35.of hb23 (by simp)) h12) h12) (by rfl) ?_
  intro h8 hU8
  have hw : ∀ {g : Nat}, h3.size ≤ g → g ≠ b3 ∧ g ≠ b2 := fun hg => ⟨by omega, by omega⟩
  refine wp_done (finM_at [vBale r ⟨a4, cap4, a5, cap5⟩] rfl ⟨⟨_, _, _, rfl, rfl, ld_of hU8.here rfl⟩, trivial⟩ ⟨⟨⟨a4, cap4, a5, cap5⟩, blk4, blk5, rfl, ?_, ?_, fun g hg => Nat.le_trans hc3.size (n4 g hg), fun g hg => Nat.le_trans hc3.size (n5 g hg)⟩, ?_⟩)
  · exact (((ho4.ext hc5).wr hU6 fun g hg => (hw (n4 g hg)).1).wr hU7 fun g hg => (hw (n4 g hg)).1).wr hU8 fun g hg => (hw (n4 g hg)).2
  · exact ((ho5.wr hU6 fun g hg => (hw (n5 g hg)).1).wr hU7 fun g hg => (hw (n5 g hg)).1).wr hU8 fun g hg => (hw (n5 g hg)).2
  · exact hU8.chgGe (hU7.chgGe (hU6.chgGe (hc3.trans hc35) hle3) hle3) hN1.le
theorem bale_c (M : List Nat) (h : Hp) (a : Option Addr) (p : StP) (ok : Bool) (σ : StateR) (no : Int) (y : VwIs h a p ok) (hσ : StOk M h p σ) (hz : ∀ r, getL eqI no σ.bales = some r → r.parts.length < 900000 ∧ r.from_.length < 900000) :
    Call c Tryz.prog 55 #[.pointer a, .int .i64 no] h fun v h' => Chg [] h h' ∧ match getL eqI no σ.bales with
      | none => v = .tuple #[vBale zBaleR zBalP, .int .i64 (missE ok)]
      | some r => ∃ u, v = .tuple #[u, .int .i64 0] ∧ OwnBale h h' r u := by
  obtain ⟨ys, hm, ha⟩ := hσ.bales
  refine call_ofM layOk 23 Tryz.func55 Tryz.ntmps55 rfl rfl rfl ?_
  refine wp_new ?_
  intro b4 h1 hN
  have hc1 := hN.chg []
  refine wp_call (state_c h1 a p ok (y.ext hc1)) ?_
  rintro _ h2 ⟨rfl, hc2⟩
  have hc02 := hc1.trans hc2
  refine wp_call (BI.get_c M ys no p.b h2 (hm.ext hc02)) ?_
  rintro _ h3 ⟨rfl, hc3⟩
  have hc03 := hc02.trans hc3
  have hb4 := hc3.of (hc2.of hN.here (by simp)) (by simp)
  rcases ha.get eqI no with ⟨e1, e2⟩ | ⟨bk, r, e1, e2, hb⟩
  · unfold BI.getV
    rw [e1, e2]
    refine wp_brT rfl ?_
    refine wp_call (missing_c h3 a p ok (y.ext hc03)) ?_
    rintro _ h3 ⟨rfl, rfl⟩
    refine wp_store hb4 (by rfl) ?_
    intro h4 hU4
    exact wp_done (finM_at [vBale zBaleR zBalP, .int .i64 (missE ok)] rfl ⟨⟨_, _, _, rfl, rfl, ld_of hU4.here rfl⟩, rfl, trivial⟩ ⟨hU4.chgGe hc03 hN.le, rfl⟩)
  · unfold BI.getV
    rw [e1, e2]
    have hz' := hz r e2
    refine wp_brF rfl ?_
    refine wp_call (own_c M h3 bk r (hb.chg hc03 (by simp)) hz'.1 hz'.2) ?_
    rintro _ h4 ⟨⟨q, bp, bf, rfl, h5, h6, h7, h8⟩, hc4⟩
    refine wp_store (hc4.of hb4 (by simp)) (by rfl) ?_
    intro h9 hU9
    have hl4 := (Array.getElem?_eq_some_iff.1 hb4).1
    refine wp_done (finM_at [vBale r q, .int .i64 0] rfl ⟨⟨_, _, _, rfl, rfl, ld_of hU9.here rfl⟩, rfl, trivial⟩ ⟨hU9.chgGe (hc03.trans hc4) hN.le, _, rfl, q, bp, bf, rfl, ?_, ?_, h7.back hc03.size, h8.back hc03.size⟩)
    · exact h5.wr hU9 fun g hg => by have := h7 g hg; omega
    · exact h6.wr hU9 fun g hg => by have := h8 g hg; omega
end Go.Xe
namespace Go.Xe
open Go Go.Proofs
set_option maxRecDepth 20000
variable {c : World}
def vLot (l : LotR) (a : Option Addr) (cap : Nat) : Value := .agg #[.string l.name, .slice a l.bales.length cap, .bool l.sent]
def zLotR : LotR := ⟨⟨#[]⟩, [], false⟩
theorem lot_c (M : List Nat) (h : Hp) (a : Option Addr) (p : StP) (ok : Bool) (σ : StateR) (name : ByteArray) (y : VwIs h a p ok) (hσ : StOk M h p σ) (hz : ∀ l, getL eqS name σ.lots = some l → l.bales.length < 900000) :
    Call c Tryz.prog 43 #[.pointer a, .string name] h fun v h' => Chg [] h h' ∧ match getL eqS name σ.lots with
      | none => v = .tuple #[vLot zLotR none 0, .int .i64 (missE ok)]
      | some l => ∃ a' cap' blk', v = .tuple #[vLot l a' cap', .int .i64 0] ∧ IntsOwn h' a' cap' l.bales blk' ∧ Fresh h blk' := by
  obtain ⟨ys, hm, ha⟩ := hσ.lots
  refine call_ofM layOk 35 Tryz.func43 Tryz.ntmps43 rfl rfl rfl ?_
  refine wp_new ?_
  intro b4 h1 hN
  have hc1 := hN.chg []
  refine wp_call (state_c h1 a p ok (y.ext hc1)) ?_
  rintro _ h2 ⟨rfl, hc2⟩
  have hc02 := hc1.trans hc2
  refine wp_call (SL.get_c M ys name p.l h2 (hm.ext hc02)) ?_
  rintro _ h3 ⟨rfl, hc3⟩
  have hc03 := hc02.trans hc3
  have hb4 := hc3.of (hc2.of hN.here (by simp)) (by simp)
  rcases ha.get eqS name with ⟨e1, e2⟩ | ⟨bk, l, e1, e2, hb⟩
  · unfold SL.getV
    rw [e1, e2]
    refine wp_brT rfl ?_
    refine wp_call (missing_c h3 a p ok (y.ext hc03)) ?_
    rintro _ h3 ⟨rfl, rfl⟩
    refine wp_store hb4 (by rfl) ?_
    intro h4 hU4
    exact wp_done (finM_at [vLot zLotR none 0, .int .i64 (missE ok)] rfl ⟨⟨_, _, _, rfl, rfl, ld_of hU4.here rfl⟩, rfl, trivial⟩ ⟨hU4.chgGe hc03 hN.le, rfl⟩)
  · unfold SL.getV
    rw [e1, e2]
    have hz' := hz l e2
    obtain ⟨al, capl, hbM, hbb, hl⟩ := hb
    have hbb3 := hc03.of hbb (by simp)
    refine wp_brF rfl ?_
    refine wp_ord layOk mixed [(0, 7), (9, 12), (8, 8), (13, 15)] [8] (by kernel_rfl) ?_
    refine wp_load (v := .string l.name) (ld_of hbb3 rfl) ?_
    refine wp_load (v := .slice al l.bales.length capl) (ld_of hbb3 rfl) ?_
    refine wp_load (v := .bool l.sent) (ld_of hbb3 rfl) ?_
    refine wp_callE (clone66_c M l.bales al capl h3 (hl.ext hc03) hz') ?_
    rintro _ h4 ⟨a4, cap4, blk4, rfl, ho4, hc4, hf4⟩
    refine ⟨hc4, ?_⟩
    refine wp_store (hc4.of hb4 (by simp)) (by rfl) ?_
    intro h5 hU5
    have hl4 := (Array.getElem?_eq_some_iff.1 hb4).1
    exact wp_done (finM_at [vLot l a4 cap4, .int .i64 0] rfl ⟨⟨_, _, _, rfl, rfl, ld_of hU5.here rfl⟩, rfl, trivial⟩ ⟨hU5.chgGe (hc03.trans hc4) hN.le, a4, cap4, blk4, rfl, ho4.wr hU5 fun g hg => by have := hf4 g hg; omega, hf4.back hc03.size⟩)
theorem totals_c (M : List Nat) (h : Hp) (a : Option Addr) (p : StP) (ok : Bool) (σ : StateR) (clip : Int) (y : VwIs h a p ok) (hσ : StOk M h p σ) :
    Call c Tryz.prog 56 #[.pointer a, .int .i64 clip] h fun v h' => Chg [] h h' ∧ v = (if (getL eqI clip σ.clips).isSome then .tuple #[vTot (totOf σ.totals clip), .int .i64 0] else .tuple #[vTot zTotR, .int .i64 (missE ok)]) := by
  have hgt : ∃ bo, TI.getV clip σ.totals = .tuple #[vTot (totOf σ.totals clip), .bool bo] := by
    unfold TI.getV totOf
    cases getL eqI clip σ.totals with
    | none => exact ⟨false, rfl⟩
    | some t => exact ⟨true, rfl⟩
  obtain ⟨bo, hgt⟩ := hgt
  have hgv : ∃ x, CI.getV clip σ.clips = .tuple #[vClip x, .bool (getL eqI clip σ.clips).isSome] := by
    unfold CI.getV
    cases getL eqI clip σ.clips with
    | none => exact ⟨⟨0, ⟨#[]⟩, ⟨#[]⟩⟩, rfl⟩
    | some t => exact ⟨t, rfl⟩
  obtain ⟨x, hgv⟩ := hgv
  refine call_ofM layOk 33 Tryz.func56 Tryz.ntmps56 rfl rfl rfl ?_
  refine wp_new ?_
  intro b4 h1 hN
  have hc1 := hN.chg []
  refine wp_call (state_c h1 a p ok (y.ext hc1)) ?_
  rintro _ h2 ⟨rfl, hc2⟩
  have hb42 := hc2.of hN.here (by simp)
  refine wp_new ?_
  intro b6 h3 hN3
  refine wp_store hN3.here (by rfl) ?_
  intro h4 hU4
  have hc24 : Chg [] h2 h4 := hU4.chgGe (hN3.chg []) hN3.le
  have hc04 := (hc1.trans hc2).trans hc24
  have hb44 := hc24.of hb42 (by simp)
  have hget := CI.get_c (c := c) M σ.clips clip p.c h4 (hσ.ext hc04).clips
  rw [hgv] at hget
  refine wp_load (ld_of hU4.here rfl) ?_
  refine wp_call hget ?_
  rintro _ h5 ⟨rfl, hc5⟩
  have hb65 := hc5.of hU4.here (by simp)
  refine wp_new ?_
  intro b7 h6 hN6
  refine wp_store hN6.here (by rfl) ?_
  intro h7 hU7
  have hc57 : Chg [] h5 h7 := hU7.chgGe (hN6.chg []) hN6.le
  have hc07 := (hc04.trans hc5).trans hc57
  have hb47 := hc57.of (hc5.of hb44 (by simp)) (by simp)
  have hb67 := hc57.of hb65 (by simp)
  cases hcl : (getL eqI clip σ.clips).isSome with
  | false =>
    refine wp_brT (by rfl) ?_
    refine wp_call (missing_c h7 a p ok (y.ext hc07)) ?_
    rintro _ h7 ⟨rfl, rfl⟩
    refine wp_store hb47 (by rfl) ?_
    intro h8 hU8
    exact wp_done (finM_at [vTot zTotR, .int .i64 (missE ok)] rfl ⟨⟨_, _, _, rfl, rfl, ld_of hU8.here rfl⟩, rfl, trivial⟩ ⟨hU8.chgGe hc07 hN.le, rfl⟩)
  | true =>
    have hget2 := TI.get_c (c := c) M σ.totals clip p.t h7 (hσ.ext hc07).totals
    rw [hgt] at hget2
    refine wp_brF (by rfl) ?_
    refine wp_load (ld_of hb67 rfl) ?_
    refine wp_call hget2 ?_
    rintro _ h8 ⟨rfl, hc8⟩
    have hb48 := hc8.of hb47 (by simp)
    refine wp_new ?_
    intro b9 h9 hN9
    refine wp_store hN9.here (by rfl) ?_
    intro h10 hU10
    have hc810 : Chg [] h8 h10 := hU10.chgGe (hN9.chg []) hN9.le
    have hc010 := (hc07.trans hc8).trans hc810
    refine wp_load (v := vTot (totOf σ.totals clip)) (ld_of hU10.here rfl) ?_
    refine wp_store (hc810.of hb48 (by simp)) (by rfl) ?_
    intro h11 hU11
    exact wp_done (finM_at [vTot (totOf σ.totals clip), .int .i64 0] rfl ⟨⟨_, _, _, rfl, rfl, ld_of hU11.here rfl⟩, rfl, trivial⟩ ⟨hU11.chgGe hc010 hN.le, rfl⟩)
theorem sourcesN_c (M : List Nat) (h : Hp) (a : Option Addr) (p : StP) (ok : Bool) (σ : StateR) (no : Int) (y : VwIs h a p ok) (hσ : StOk M h p σ) (hno : getL eqI no σ.bales = none) :
    Call c Tryz.prog 47 #[.pointer a, .int .i64 no] h fun v h' => Chg [] h h' ∧ v = .tuple #[.slice none 0 0, .int .i64 (missE ok)] := by
  obtain ⟨ys, hm, ha⟩ := hσ.bales
  have e1 : getL eqI no ys = none := by
    rcases ha.get eqI no with ⟨e1, e2⟩ | ⟨bk, r, e1, e2, hb⟩
    · exact e1
    · rw [hno] at e2; cases e2
  refine call_of layOk 43 Tryz.func47 Tryz.ntmps47 rfl rfl rfl rfl ?_
  refine wp_call (state_c h a p ok y) ?_
  rintro _ h1 ⟨rfl, hc1⟩
  refine wp_new ?_
  intro b6 h3 hN3
  refine wp_store hN3.here (by rfl) ?_
  intro h4 hU4
  have hc04 : Chg [] h h4 := hc1.trans (hU4.chgGe (hN3.chg []) hN3.le)
  refine wp_load (ld_of hU4.here rfl) ?_
  refine wp_call (BI.get_c M ys no p.b h4 (hm.ext hc04)) ?_
  rintro _ h5 ⟨rfl, hc5⟩
  unfold BI.getV
  rw [e1]
  refine wp_brT rfl ?_
  refine wp_call (missing_c h5 a p ok (y.ext (hc04.trans hc5))) ?_
  rintro _ h5 ⟨rfl, rfl⟩
  exact wp_done ⟨rfl, hc04.trans hc5, rfl⟩
theorem heirsN_c (M : List Nat) (h : Hp) (a : Option Addr) (p : StP) (ok : Bool) (σ : StateR) (no : Int) (y : VwIs h a p ok) (hσ : StOk M h p σ) (hno : getL eqI no σ.bales = none) :
    Call c Tryz.prog 48 #[.pointer a, .int .i64 no] h fun v h' => Chg [] h h' ∧ v = .tuple #[.slice none 0 0, .int .i64 (missE ok)] := by
  obtain ⟨ys, hm, ha⟩ := hσ.bales
  have e1 : getL eqI no ys = none := by
    rcases ha.get eqI no with ⟨e1, e2⟩ | ⟨bk, r, e1, e2, hb⟩
    · exact e1
    · rw [hno] at e2; cases e2
  refine call_ofM layOk 47 Tryz.func48 Tryz.ntmps48 rfl rfl rfl ?_
  refine wp_call (state_c h a p ok y) ?_
  rintro _ h1 ⟨rfl, hc1⟩
  refine wp_new ?_
  intro b6 h3 hN3
  refine wp_store hN3.here (by rfl) ?_
  intro h4 hU4
  have hc04 : Chg [] h h4 := hc1.trans (hU4.chgGe (hN3.chg []) hN3.le)
  refine wp_load (ld_of hU4.here rfl) ?_
  refine wp_call (BI.get_c M ys no p.b h4 (hm.ext hc04)) ?_
  rintro _ h5 ⟨rfl, hc5⟩
  unfold BI.getV
  rw [e1]
  refine wp_brT rfl ?_
  refine wp_call (missing_c h5 a p ok (y.ext (hc04.trans hc5))) ?_
  rintro _ h5 ⟨rfl, rfl⟩
  exact wp_done (finM_at [.slice none 0 0, .int .i64 (missE ok)] rfl ⟨rfl, rfl, trivial⟩ ⟨hc04.trans hc5, rfl⟩)
end Go.Xe
