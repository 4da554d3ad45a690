/- Lemmas on the way: Every change keeps to its contract; the changes by their own functions. alive: the awake part of every statement. StockNobody: every method of a nil store or view, or of a zero one. -/
import Derived.Test.YtebbgoklldmkiaaGreatQ42
import Derived.Test.YtebbgoklldmkiaaGreatQ44
import Derived.Test.YtebbgoklldmkiaaGreatQ45
namespace Go.Xe
open Go Go.Proofs
set_option maxRecDepth 20000
variable {c : World}
structure StateW (σ : StateR) : Prop where
  size : SizeW σ
  find : ∀ no, FindW σ no
  key : ∀ no, KeyW σ no
  lot : ∀ name l, getL eqS name σ.lots = some l → l.bales.length < 1000
theorem step_x (σ : StateR) (m : MoveR) (a : Option Addr) (cap : Nat) (hW : StateW σ) (f : Nat) (hf : chF m.what = some f) (hlt : f < 122) (M : List Nat) (sb : Nat) (h : Hp) (p : StP) (y : SC M sb h p σ) (hn : IntsAt [] h a cap m.nos) :
    Call c Tryz.prog f #[.pointer (some ⟨sb, 0, none⟩), vMove m a cap] h (StepOk M sb h (stepF σ m)) := by
  have hz := hW.size
  have z1 := hz.clips
  have z2 := hz.names
  have z3 := hz.bales
  have z4 := hz.totals
  unfold chF at hf
  unfold stepF
  by_cases h1 : m.what = 1
  · rw [if_pos h1] at hf ⊢; cases hf
    exact clip_c M sb p σ m a cap h y.bd y.mem y.blk y.ok (by omega) (by omega)
  rw [if_neg h1] at hf ⊢
  by_cases h2 : m.what = 2
  · rw [if_pos h2] at hf ⊢; cases hf
    exact receive_c M sb p σ m a cap h y.bd y.mem y.blk y.ok (by omega) (by omega)
  rw [if_neg h2] at hf ⊢
  by_cases h3 : m.what = 3
  · rw [if_pos h3] at hf ⊢; cases hf
    exact split_c M sb p σ m a cap h y.bd y.mem y.blk y.ok hz (hW.find _)
  rw [if_neg h3] at hf ⊢
  by_cases h4 : m.what = 4
  · rw [if_pos h4] at hf ⊢; cases hf
    exact merge_x M [] sb p σ m a cap h y hz hn (fun no _ => hW.find no)
  rw [if_neg h4] at hf ⊢
  by_cases h5 : m.what = 5
  · rw [if_pos h5] at hf ⊢; cases hf
    exact core_x M sb p σ m a cap h y hz (hW.find _)
  rw [if_neg h5] at hf ⊢
  by_cases h6 : m.what = 6
  · rw [if_pos h6] at hf ⊢; cases hf
    exact weigh_x M sb p σ m a cap h y hz (hW.find _)
  rw [if_neg h6] at hf ⊢
  by_cases h7 : m.what = 7
  · rw [if_pos h7] at hf ⊢; cases hf
    exact hold_x M sb p σ m a cap h y hz
  rw [if_neg h7] at hf ⊢
  by_cases h8 : m.what = 8
  · rw [if_pos h8] at hf ⊢; cases hf
    exact release_x M sb p σ m a cap h y hz
  rw [if_neg h8] at hf ⊢
  by_cases h9 : m.what = 9
  · rw [if_pos h9] at hf ⊢; cases hf
    exact waste_x M sb p σ m a cap h y hz (hW.key _) (hW.find _)
  rw [if_neg h9] at hf ⊢
  by_cases h10 : m.what = 10
  · rw [if_pos h10] at hf ⊢; cases hf
    exact lot_x M [] sb p σ m a cap h y hz hn
  rw [if_neg h10] at hf ⊢
  by_cases h11 : m.what = 11
  · rw [if_pos h11] at hf; cases hf; omega
  rw [if_neg h11] at hf
  by_cases h12 : m.what = 12
  · rw [if_pos h12] at hf; cases hf; omega
  rw [if_neg h12] at hf
  cases hf
def mvClip (name owner : ByteArray) : MoveR := { zMoveR with what := 1, name := name, owner := owner }
def mvRecv (no : Int) (k : KindR) (g : Int) : MoveR := { zMoveR with what := 2, no := no, kind := k, grams := g }
def mvSplit (no g : Int) : MoveR := { zMoveR with what := 3, no := no, grams := g }
def mvMerge (nos : List Int) : MoveR := { zMoveR with what := 4, nos := nos }
section
variable {x : StoP} {M Mn : List Nat} {st : Nat} {S : StoreR} {h : Hp}
/-- a change is carried out -/
def DoC (c : World) (S : StoreR) (m : MoveR) : Prop := ∀ (x : StoP) (M : List Nat) (st : Nat) (a : Option Addr) (cap : Nat) (h : Hp), Bd M h → StoreAt x M h st S → IntsAt [] h a cap m.nos →
  Call c Tryz.prog 39 #[.pointer (some ⟨st, 0, none⟩), vMove m a cap] h (DoOk x M h st (doF S m))
theorem doC (hW : StateW (nowS S)) (m : MoveR) (hz : m.nos.length < 1000) (hm : ∀ f, chF m.what = some f → f < 122) : DoC c S m := fun x M st a cap h hM y hn =>
  do_c x M [] st S m a cap h hM y hn hz fun f hf M sb h p y hn => step_x (nowS S) m a cap hW f hf (hm f hf) M sb h p y hn
theorem clip_w (name owner : ByteArray) (hM : Bd M h) (y : StoreAt x M h st S) (hd : DoC c S (mvClip name owner)) : Call c Tryz.prog 58 #[.pointer (some ⟨st, 0, none⟩), .string name, .string owner] h (DoOk x M h st (doF S (mvClip name owner))) := by
  refine call_of layOk 15 Tryz.func58 Tryz.ntmps58 rfl rfl rfl rfl ?_
  refine wp_call (hd x M st none 0 h hM y .nil) ?_
  rintro _ h1 ⟨rfl, h2⟩
  exact wp_done ⟨rfl, rfl, h2⟩
theorem recv_w (no : Int) (k : KindR) (g : Int) (hM : Bd M h) (y : StoreAt x M h st S) (hd : DoC c S (mvRecv no k g)) : Call c Tryz.prog 59 #[.pointer (some ⟨st, 0, none⟩), .int .i64 no, vKind k, .int .i64 g] h (DoOk x M h st (doF S (mvRecv no k g))) := by
  refine call_of layOk 18 Tryz.func59 Tryz.ntmps59 rfl rfl rfl rfl ?_
  refine wp_new ?_
  intro b h1 hN
  refine wp_load (v := vKind k) (ld_of hN.here rfl) ?_
  refine wp_call (hd x M st none 0 h1 (hM.chg (hN.chg [])) (y.ext (hN.chg [])) .nil) ?_
  rintro _ h2 ⟨rfl, x', N, h3, h4, h5, h6, h7⟩
  refine wp_done ⟨rfl, rfl, x', N, h3, h4, (hN.chg _).trans h5, fun k hk => (h6 k hk).imp id fun h => Nat.le_trans (hN.chg []).size h, fun k hk => Nat.le_trans (hN.chg []).size (h7 k hk)⟩
theorem merge_w (nos : List Int) (a : Option Addr) (cap : Nat) (hM : Bd M h) (y : StoreAt x M h st S) (hn : IntsAt [] h a cap nos) (hd : DoC c S (mvMerge nos)) : Call c Tryz.prog 60 #[.pointer (some ⟨st, 0, none⟩), .slice a nos.length cap] h (DoOk x M h st (doF S (mvMerge nos))) := by
  refine call_of layOk 12 Tryz.func60 Tryz.ntmps60 rfl rfl rfl rfl ?_
  refine wp_call (hd x M st a cap h hM y hn) ?_
  rintro _ h1 ⟨rfl, h2⟩
  exact wp_done ⟨rfl, rfl, h2⟩
theorem split_w (no g : Int) (hM : Bd M h) (y : StoreAt x M h st S) (hd : DoC c S (mvSplit no g)) : Call c Tryz.prog 61 #[.pointer (some ⟨st, 0, none⟩), .int .i64 no, .int .i64 g] h (DoOk x M h st (doF S (mvSplit no g))) := by
  refine call_of layOk 15 Tryz.func61 Tryz.ntmps61 rfl rfl rfl rfl ?_
  refine wp_call (hd x M st none 0 h hM y .nil) ?_
  rintro _ h1 ⟨rfl, h2⟩
  exact wp_done ⟨rfl, rfl, h2⟩
end
/-! a state that is written out is looked through -/
def baleWB (r : BaleR) : Bool := decide (r.parts.length < LP) && r.parts.all (fun p => decide (0 ≤ p.grams) && decide (p.grams ≤ 1073741824)) && decide (0 < sumI (r.parts.map (·.grams))) && decide (0 ≤ r.grams) && decide (r.grams ≤ 1073741824) && decide (r.from_.length < 900000)
def stateWB (σ : StateR) : Bool := decide (σ.clips.length < 800000) && decide (σ.names.length < 800000) && decide (σ.bales.length < 800000) && decide (σ.lots.length < 800000) && decide (σ.totals.length < 800000) &&
  σ.bales.all (fun x => x.2.no == x.1 && baleWB x.2) && σ.lots.all (fun x => decide (x.2.bales.length < 1000))
theorem baleW_of {r : BaleR} (h : baleWB r = true) : BaleW r := by
  simp only [baleWB, Bool.and_eq_true, List.all_eq_true, decide_eq_true_eq] at h
  exact ⟨h.1.1.1.1.1, h.1.1.1.1.2, h.1.1.1.2, ⟨h.1.1.2, h.1.2⟩, h.2⟩
theorem stateW_of {σ : StateR} (h : stateWB σ = true) : StateW σ := by
  simp only [stateWB, Bool.and_eq_true, List.all_eq_true, decide_eq_true_eq, beq_iff_eq] at h
  obtain ⟨⟨⟨⟨⟨⟨h1, h2⟩, h3⟩, h4⟩, h5⟩, h6⟩, h7⟩ := h
  exact ⟨⟨h1, h2, h3, h4, h5⟩, fun no r hr => baleW_of (h6 _ (getL_mem loI hr)).2, fun no r hr => (h6 _ (getL_mem loI hr)).1, fun name l hl => h7 _ (getL_mem loS hl)⟩
end Go.Xe
namespace Go.Xe
open Go Go.Proofs
set_option maxRecDepth 20000
variable {c : World}
/-- a store that the call itself made -/
def Mine (h0 h : Hp) (st : Nat) (S : StoreR) : Prop := ∃ x M, StoreAt x M h st S ∧ Bd M h ∧ Chg [] h0 h ∧ ∀ k, k ∈ x.foot st → h0.size ≤ k
theorem DoOk.mine {x : StoP} {M : List Nat} {h0 h h' : Hp} {st : Nat} {r : Int × Int × StoreR} {v : Value} (hc : Chg [] h0 h) (hf : ∀ k, k ∈ x.foot st → h0.size ≤ k) (y : DoOk x M h st r v h') : v = .tuple #[.int .i64 r.1, .int .i64 r.2.1] ∧ Mine h0 h' st r.2.2 := by
  obtain ⟨rfl, x', N, h1, h2, h3, h4, h5⟩ := y
  refine ⟨rfl, x', N ++ M, h1, h2, hc.fresh h3 (fun k hk => .inr (hf k hk)), fun k hk => ?_⟩
  rcases h4 k hk with h | h
  · exact hf k h
  · exact Nat.le_trans hc.size h
def A0 : StoreR := ⟨[⟨[], [], [], [], []⟩], [], 0⟩
def am1 : MoveR := mvClip ⟨#[109]⟩ ⟨#[97, 110, 110, 97]⟩
def A1 : StoreR := (doF A0 am1).2.2
def am2 : MoveR := mvClip ⟨#[110]⟩ ⟨#[98, 101, 114, 116]⟩
def A2 : StoreR := (doF A1 am2).2.2
def am3 : MoveR := mvRecv 1 ⟨0, 0, 0, 0⟩ 700
def A3 : StoreR := (doF A2 am3).2.2
def am4 : MoveR := mvRecv 2 ⟨0, 0, 0, 0⟩ 300
def A4 : StoreR := (doF A3 am4).2.2
def am5 : MoveR := mvMerge [2, 1]
def A5 : StoreR := (doF A4 am5).2.2
def am6 : MoveR := mvSplit 3 101
def A6 : StoreR := (doF A5 am6).2.2
theorem a1 : doF A0 am1 = (1, 0, A1) := by kernel_rfl
theorem a2 : doF A1 am2 = (2, 0, A2) := by kernel_rfl
theorem a3 : doF A2 am3 = (1, 0, A3) := by kernel_rfl
theorem a4 : doF A3 am4 = (2, 0, A4) := by kernel_rfl
theorem a5 : doF A4 am5 = (3, 0, A5) := by kernel_rfl
theorem a6 : doF A5 am6 = (4, 0, A6) := by kernel_rfl
def aB : BaleR := (getL eqI 4 (nowS A6).bales).getD zBaleR
theorem aB_get : getL eqI 4 (nowS A6).bales = some aB := by kernel_rfl
theorem aB_grams : aB.grams = 101 := by kernel_rfl
theorem aB_parts : aB.parts = [⟨1, 71⟩, ⟨2, 30⟩] := by kernel_rfl
theorem aB_ex : ∃ r, getL eqI 4 (nowS A6).bales = some r ∧ r.grams = 101 ∧ r.parts = [⟨1, 71⟩, ⟨2, 30⟩] ∧ r.from_.length < 900000 := ⟨aB, aB_get, aB_grams, aB_parts, of_decide_eq_true (by kernel_rfl)⟩
theorem alive_c (h : Hp) : Call c Tryz.prog 16 #[] h fun v h' => v = .bool true ∧ Chg [] h h' := by
  obtain ⟨r, rget, eg, ep, ef⟩ := aB_ex
  have d1 : DoC c A0 am1 := doC (stateW_of (by kernel_rfl)) am1 (by decide) (by intro f hf; cases hf; decide)
  have d2 : DoC c A1 am2 := doC (stateW_of (by kernel_rfl)) am2 (by decide) (by intro f hf; cases hf; decide)
  have d3 : DoC c A2 am3 := doC (stateW_of (by kernel_rfl)) am3 (by decide) (by intro f hf; cases hf; decide)
  have d4 : DoC c A3 am4 := doC (stateW_of (by kernel_rfl)) am4 (by decide) (by intro f hf; cases hf; decide)
  have d5 : DoC c A4 am5 := doC (stateW_of (by kernel_rfl)) am5 (by decide) (by intro f hf; cases hf; decide)
  have d6 : DoC c A5 am6 := doC (stateW_of (by kernel_rfl)) am6 (by decide) (by intro f hf; cases hf; decide)
  refine call_of layOk 132 Tryz.func16 Tryz.ntmps16 rfl rfl rfl rfl ?_
  refine wp_call (new_c [] h (by intro m hm; cases hm)) ?_
  rintro _ h0 ⟨st, x0, rfl, y0, b0, c0, f0⟩
  have y0 : StoreAt x0 (x0.foot st ++ []) h0 st A0 := y0
  refine wp_brF rfl ?_
  have k1 := (clip_w (c := c) _ _ b0 y0 d1).mono fun v h' z => z.mine c0 f0
  rw [show doF A0 (mvClip ⟨#[109]⟩ ⟨#[97, 110, 110, 97]⟩) = _ from a1] at k1
  refine wp_call k1 ?_
  rintro _ h1 ⟨rfl, x1, M1, y1, b1, c1, f1⟩
  have k2 := (clip_w (c := c) _ _ b1 y1 d2).mono fun v h' z => z.mine c1 f1
  rw [show doF A1 (mvClip ⟨#[110]⟩ ⟨#[98, 101, 114, 116]⟩) = _ from a2] at k2
  refine wp_call k2 ?_
  rintro _ h2 ⟨rfl, x2, M2, y2, b2, c2, f2⟩
  have k3 := (recv_w (c := c) _ _ _ b2 y2 d3).mono fun v h' z => z.mine c2 f2
  rw [show doF A2 (mvRecv 1 ⟨0, 0, 0, 0⟩ 700) = _ from a3] at k3
  refine wp_call k3 ?_
  rintro _ h3 ⟨rfl, x3, M3, y3, b3, c3, f3⟩
  have k4 := (recv_w (c := c) _ _ _ b3 y3 d4).mono fun v h' z => z.mine c3 f3
  rw [show doF A3 (mvRecv 2 ⟨0, 0, 0, 0⟩ 300) = _ from a4] at k4
  refine wp_call k4 ?_
  rintro _ h4 ⟨rfl, x4, M4, y4, b4, c4, f4⟩
  refine wp_new ?_
  intro bn h5 hN5
  have c5 := c4.trans (hN5.chg [])
  have k5 := (merge_w (c := c) [2, 1] (some ⟨bn, 0, none⟩) 2 (b4.chg (hN5.chg [])) (y4.ext (hN5.chg [])) (.inr ⟨bn, 0, _, rfl, by simp, hN5.here, Nat.le_refl _, Nat.le_refl _, rfl⟩) d5).mono fun v h' z => z.mine c5 f4
  rw [show doF A4 (mvMerge [2, 1]) = _ from a5] at k5
  refine wp_call k5 ?_
  rintro _ h6 ⟨rfl, x6, M6, y6, b6, c6, f6⟩
  have k6 := (split_w (c := c) _ _ b6 y6 d6).mono fun v h' z => z.mine c6 f6
  rw [show doF A5 (mvSplit 3 101) = _ from a6] at k6
  refine wp_call k6 ?_
  rintro _ h7 ⟨rfl, x7, M7, y7, b7, c7, f7⟩
  refine wp_call (at_c x7 M7 st A6 6 h7 y7 b7) ?_
  rintro _ h8 ⟨c8, hv⟩
  rcases hv with ⟨hbad, _⟩ | ⟨i, σ, b, p, hi, hin, hσi, rfl, hb8, hbb, hσ⟩
  · exfalso
    have : A6.now = 6 := by kernel_rfl
    omega
  · have hi6 : i = 6 := by omega
    subst hi6
    have hs : A6.states[6]? = some (nowS A6) := by kernel_rfl
    rw [hs] at hσi
    cases hσi
    repeat (first | refine wp_brT rfl ?_ | refine wp_brF rfl ?_)
    have kb := bale_c (c := c) (b :: M7) h8 (some ⟨b, 0, none⟩) p true (nowS A6) 4 (.inr ⟨b, rfl, hbb, fun h => by cases h⟩) hσ (by intro r' hr; rw [rget] at hr; cases hr; exact ⟨by rw [ep]; decide, ef⟩)
    rw [rget] at kb
    have kb2 := kb.mono (R' := fun v h' => ∃ (bq : Nat) (pc : Nat) (fa : Option Addr) (fc : Nat) (bp : Option Nat), v = .tuple #[.agg #[.int .i64 r.no, .int .u8 r.kind.k0, .int .u8 r.kind.k1, .int .u8 r.kind.k2, .int .u8 r.kind.k3, .int .i64 101, .slice (some ⟨bq, 0, none⟩) 2 pc, .int .i64 r.state, .string r.lot, .slice fa r.from_.length fc], .int .i64 0] ∧
        PartsOwn h' (some ⟨bq, 0, none⟩) pc [⟨1, 71⟩, ⟨2, 30⟩] bp ∧ Chg [] h8 h') (by
      rintro v h' ⟨c9, u, rfl, q, bp, bf, rfl, hp, _, _, _⟩
      rw [ep] at hp
      obtain ⟨bq, hqa, hbp⟩ := hp.ptr (i := ti129) (j := 0) (by decide)
      rw [hqa] at hp
      refine ⟨bq, q.pc, q.fa, q.fc, bp, ?_, hp, c9⟩
      unfold vBale
      rw [eg, ep, hqa]
      rfl)
    refine wp_call kb2 ?_
    rintro _ h9 ⟨bq, pc, fa, fc, bp, rfl, hp, c9⟩
    have hc09 := (c7.trans c8).trans c9
    refine wp_new ?_
    intro b10 h10 hN10
    refine wp_store hN10.here (by rfl) ?_
    intro h11 hU11
    have hc : Chg [] h h11 := hU11.chgGe (hc09.trans (hN10.chg [])) (Nat.le_trans hc09.size hN10.le)
    have hp11 := (hp.ext (hN10.chg [])).wr hU11 (fun g hg => by have := hp.lt g hg; have := hN10.le; omega)
    have hb11 : h11[b10]? = some (.cells #[.int .i64 r.no, .int .u8 r.kind.k0, .int .u8 r.kind.k1, .int .u8 r.kind.k2, .int .u8 r.kind.k3, .int .i64 101, .slice (some ⟨bq, 0, none⟩) 2 pc, .int .i64 r.state, .string r.lot, .slice fa r.from_.length fc] 42 (0, 0)) := hU11.here
    repeat (first | refine wp_brT rfl ?_ | refine wp_brF rfl ?_)
    refine wp_load (ld_of hb11 rfl) ?_
    repeat (first | refine wp_brT rfl ?_ | refine wp_brF rfl ?_)
    refine wp_load (ld_of hb11 rfl) ?_
    repeat (first | refine wp_brT rfl ?_ | refine wp_brF rfl ?_)
    refine wp_load (ld_of hb11 rfl) ?_
    repeat (first | refine wp_brT rfl ?_ | refine wp_brF rfl ?_)
    refine wp_chk ⟨by decide, by decide⟩ ?_
    repeat (first | refine wp_brT rfl ?_ | refine wp_brF rfl ?_)
    refine wp_load (hp11.ldF (i := ti129) enPart (tf := ti3) rfl (j := 0) rfl (k := 1) rfl) ?_
    repeat (first | refine wp_brT rfl ?_ | refine wp_brF rfl ?_)
    refine wp_load (ld_of hb11 rfl) ?_
    repeat (first | refine wp_brT rfl ?_ | refine wp_brF rfl ?_)
    refine wp_chk ⟨by decide, by decide⟩ ?_
    repeat (first | refine wp_brT rfl ?_ | refine wp_brF rfl ?_)
    refine wp_load (hp11.ldF (i := ti129) enPart (tf := ti3) rfl (j := 1) rfl (k := 1) rfl) ?_
    repeat (first | refine wp_brT rfl ?_ | refine wp_brF rfl ?_)
    exact wp_done ⟨rfl, rfl, hc⟩
end Go.Xe
namespace Go.Xe
open Go Go.Proofs
set_option maxRecDepth 20000
variable {c : World}
theorem sameZ_c (h : Hp) : Call c Tryz.prog 57 #[vBale zBaleR zBalP, vBale zBaleR zBalP] h fun v h' => v = .bool true ∧ Chg [] h h' := by
  refine call_of layOk 94 Tryz.func57 Tryz.ntmps57 rfl rfl rfl rfl ?_
  refine wp_new ?_
  intro b2 h1 hN1
  refine wp_new ?_
  intro b3 h2 hN2
  have hc := (hN1.chg []).trans (hN2.chg [])
  have e2 : h2[b2]? = some (.cells (elBale zBaleR zBalP).toArray 42 (0, 0)) := hN2.of hN1.here
  have e3 : h2[b3]? = some (.cells (elBale zBaleR zBalP).toArray 42 (0, 0)) := hN2.here
  refine wp_load (v := .int .i64 0) (ld_of e2 rfl) ?_
  refine wp_load (v := .int .i64 0) (ld_of e3 rfl) ?_
  repeat (first | refine wp_brT rfl ?_ | refine wp_brF rfl ?_)
  refine wp_load (v := vKind ⟨0, 0, 0, 0⟩) (ld_of e2 rfl) ?_
  repeat (first | refine wp_brT rfl ?_ | refine wp_brF rfl ?_)
  refine wp_load (v := vKind ⟨0, 0, 0, 0⟩) (ld_of e3 rfl) ?_
  repeat (first | refine wp_brT rfl ?_ | refine wp_brF rfl ?_)
  refine wp_sem0 (.bool false) (fun w => run_kindNe _ _ ⟨0, 0, 0, 0⟩ ⟨0, 0, 0, 0⟩ w) ?_
  repeat (first | refine wp_brT rfl ?_ | refine wp_brF rfl ?_)
  refine wp_load (v := .int .i64 0) (ld_of e2 rfl) ?_
  repeat (first | refine wp_brT rfl ?_ | refine wp_brF rfl ?_)
  refine wp_load (v := .int .i64 0) (ld_of e3 rfl) ?_
  repeat (first | refine wp_brT rfl ?_ | refine wp_brF rfl ?_)
  refine wp_load (v := .int .i64 0) (ld_of e2 rfl) ?_
  repeat (first | refine wp_brT rfl ?_ | refine wp_brF rfl ?_)
  refine wp_load (v := .int .i64 0) (ld_of e3 rfl) ?_
  repeat (first | refine wp_brT rfl ?_ | refine wp_brF rfl ?_)
  refine wp_load (v := .string ⟨#[]⟩) (ld_of e2 rfl) ?_
  repeat (first | refine wp_brT rfl ?_ | refine wp_brF rfl ?_)
  refine wp_load (v := .string ⟨#[]⟩) (ld_of e3 rfl) ?_
  repeat (first | refine wp_brT rfl ?_ | refine wp_brF rfl ?_)
  refine wp_brF (by kernel_rfl) ?_
  repeat (first | refine wp_brT rfl ?_ | refine wp_brF rfl ?_)
  refine wp_load (v := .slice none 0 0) (ld_of e2 rfl) ?_
  repeat (first | refine wp_brT rfl ?_ | refine wp_brF rfl ?_)
  refine wp_load (v := .slice none 0 0) (ld_of e3 rfl) ?_
  repeat (first | refine wp_brT rfl ?_ | refine wp_brF rfl ?_)
  refine wp_load (v := .slice none 0 0) (ld_of e2 rfl) ?_
  repeat (first | refine wp_brT rfl ?_ | refine wp_brF rfl ?_)
  refine wp_load (v := .slice none 0 0) (ld_of e3 rfl) ?_
  repeat (first | refine wp_brT rfl ?_ | refine wp_brF rfl ?_)
  refine wp_loopK layOk [5, 4] 58 75 rfl [2, 3] [vPtr b2, vPtr b3] rfl [] rfl (fun m vals h' => ∃ u, vals = [.int .i64 0, u] ∧ h' = h2) 0 ⟨_, rfl, rfl⟩ ?_
  rintro ρ0 m g vals h2 - ⟨u, rfl, rfl⟩
  refine wp_load (v := .slice none 0 0) (ld_of e2 rfl) ?_
  refine wp_brF rfl ?_
  refine wp_done ?_
  show X.wp _ _ _ _ _ _ _
  refine wp_loopK layOk [6, 4] 76 93 rfl [2, 3] [vPtr b2, vPtr b3] rfl [] rfl (fun m vals h' => ∃ u, vals = [.int .i64 0, u] ∧ h' = h2) 0 ⟨_, rfl, rfl⟩ ?_
  rintro ρ1 m g vals h2 - ⟨u, rfl, rfl⟩
  refine wp_load (v := .slice none 0 0) (ld_of e2 rfl) ?_
  refine wp_brF rfl ?_
  refine wp_done ?_
  show X.wp _ _ _ _ _ _ _
  exact wp_done ⟨rfl, rfl, hc⟩
end Go.Xe
