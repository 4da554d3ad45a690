/- Lemmas on the way: The move clip. A region that draws in several ways: behind it only some temporaries are known, whatever way was taken. The move receive. -/
import Derived.Test.YtebbgoklldmkiaaGreatQ25
import Derived.Test.YtebbgoklldmkiaaGreatQ15
namespace Go.Xe
open Go Go.Proofs
set_option maxRecDepth 20000
variable {c : World}
/-- what a move answers and leaves -/
def StepOk (M : List Nat) (sb : Nat) (h : Hp) (r : Int × Int × StateR) (v : Value) (h' : Hp) : Prop :=
  v = .tuple #[.int .i64 r.1, .int .i64 r.2.1] ∧ ∃ p', StBlk h' sb p' ∧ StOk M h' p' r.2.2 ∧ Chg [sb] h h'
def clipF (σ : StateR) (m : MoveR) : Int × Int × StateR :=
  if (!nameB m.name || !nameB m.owner) = true then (0, 2, σ)
  else if (getL eqS m.name σ.names).isSome = true then (0, 8, σ)
  else if (σ.clips.length : Int) + 1 > 64 then (0, 9, σ)
  else (σ.clips.length + 1, 0, { σ with clips := insL ltI (σ.clips.length + 1) ⟨σ.clips.length + 1, m.name, m.owner⟩ σ.clips, names := insL ltS m.name (σ.clips.length + 1) σ.names })

theorem clip_c (M : List Nat) (sb : Nat) (p : StP) (σ : StateR) (m : MoveR) (a : Option Addr) (cap : Nat) (h : Hp) (hM : Bd M h) (hsM : sb ∈ M) (hsb : StBlk h sb p) (hσ : StOk M h p σ) (hz : σ.clips.length < 900000) (hz2 : σ.names.length < 900000) :
    Call c Tryz.prog 112 #[.pointer (some ⟨sb, 0, none⟩), vMove m a cap] h (StepOk M sb h (clipF σ m)) := by
  have hgv : ∃ x, SI.getV m.name σ.names = .tuple #[.int .i64 x, .bool (getL eqS m.name σ.names).isSome] := by
    unfold SI.getV
    cases getL eqS m.name σ.names with
    | none => exact ⟨0, rfl⟩
    | some t => exact ⟨t, rfl⟩
  obtain ⟨x, hgv⟩ := hgv
  have hwn : IntKind.i64.wrap ((σ.clips.length : Int) + 1) = σ.clips.length + 1 := w64 (by omega) (by omega)
  refine call_of layOk 68 Tryz.func112 Tryz.ntmps112 rfl rfl rfl rfl ?_
  refine wp_new ?_
  intro mb h1 hN
  have hc1 := hN.chg []
  have hget := SI.get_c (c := c) M σ.names m.name p.n h1 (hσ.ext hc1).names
  rw [hgv] at hget
  refine wp_ord layOk mixed [(0, 11)] [] (by kernel_rfl) ?_
  refine wp_load (ld_of (hN.of hsb) rfl) ?_
  refine wp_load (ld_of hN.here rfl) ?_
  refine wp_call hget ?_
  rintro _ h2 ⟨rfl, hc2⟩
  have hc02 := hc1.trans hc2
  have hmb := hc2.of hN.here (by simp)
  refine wp_load (ld_of (hc02.of hsb (by simp)) rfl) ?_
  refine wp_call (CI.mlen_c M σ.clips p.c h2 (hσ.ext hc02).clips) ?_
  rintro _ h3 ⟨rfl, hc3⟩
  have hc03 := hc02.trans hc3
  have hmb3 := hc3.of hmb (by simp)
  refine wp_load (ld_of hmb3 rfl) ?_
  refine wp_call (name_c m.name h3) ?_
  rintro _ h3 ⟨rfl, rfl⟩
  have hs3 := hc03.of hsb (by simp)
  have hσ3 := hσ.ext hc03
  have err : ∀ e, clipF σ m = (0, e, σ) → StepOk M sb h (clipF σ m) (.tuple #[.int .i64 0, .int .i64 e]) h3 := fun e he => by
    rw [he]
    exact ⟨rfl, p, hs3, hσ3, hc03.mono (by simp)⟩
  refine wp_br (fun g1 => ?_) (fun g1 => ?_)
  · have d1 : (!nameB m.name) = true := g1
    repeat (first | refine wp_brT rfl ?_ | refine wp_brF rfl ?_)
    exact wp_done ⟨rfl, err 2 (by unfold clipF; rw [d1]; rfl)⟩
  · have d1 : (!nameB m.name) = false := g1
    repeat (first | refine wp_brT rfl ?_ | refine wp_brF rfl ?_)
    refine wp_load (ld_of hmb3 rfl) ?_
    repeat (first | refine wp_brT rfl ?_ | refine wp_brF rfl ?_)
    refine wp_call (name_c m.owner h3) ?_
    rintro _ h3 ⟨rfl, rfl⟩
    repeat (first | refine wp_brT rfl ?_ | refine wp_brF rfl ?_)
    refine wp_br (fun g2 => ?_) (fun g2 => ?_)
    · have d2 : (!nameB m.owner) = true := g2
      exact wp_done ⟨rfl, err 2 (by unfold clipF; rw [d1, d2]; rfl)⟩
    · have d2 : (!nameB m.owner) = false := g2
      refine wp_br (fun g3 => ?_) (fun g3 => ?_)
      · have d3 : (getL eqS m.name σ.names).isSome = true := g3
        exact wp_done ⟨rfl, err 8 (by unfold clipF; rw [d1, d2, if_neg (by simp), if_pos d3])⟩
      · have d3 : (getL eqS m.name σ.names).isSome = false := g3
        refine wp_br (fun g4 => ?_) (fun g4 => ?_)
        · have d4 : decide (IntKind.i64.wrap ((σ.clips.length : Int) + 1) > 64) = true := g4
          rw [hwn] at d4
          exact wp_done ⟨rfl, err 9 (by unfold clipF; rw [d1, d2, if_neg (by simp), d3, if_neg (by simp), if_pos (of_decide_eq_true d4)])⟩
        · have d4 : decide (IntKind.i64.wrap ((σ.clips.length : Int) + 1) > 64) = false := g4
          rw [hwn] at d4
          have hs : ∀ k, k ∈ [sb] → k ∈ M := fun k hk => by rcases List.mem_singleton.1 hk with rfl; exact hsM
          have hmbs : mb ∉ [sb] := by
            intro hm
            have h5 := List.mem_singleton.1 hm
            have h6 := hN.le
            have h7 := (Array.getElem?_eq_some_iff.1 hsb).1
            omega
          have hMb : Bd M h3 := hM.chg hc03
          refine wp_ord layOk mixed [(0, 15)] [] (by kernel_rfl) ?_
          refine wp_load (ld_of hs3 rfl) ?_
          refine wp_load (ld_of hmb3 rfl) ?_
          refine wp_load (ld_of hmb3 rfl) ?_
          refine wp_call (CI.mput_c M σ.clips (IntKind.i64.wrap ((σ.clips.length : Int) + 1)) ⟨IntKind.i64.wrap ((σ.clips.length : Int) + 1), m.name, m.owner⟩ p.c h3 hMb hσ3.clips hz) ?_
          rintro _ h4 ⟨q1, rfl, hc4, hm4⟩
          refine wp_store (hc4.of hs3 (by simp)) (by rfl) ?_
          intro h5 hU5
          have hc5 : Chg [sb] h4 h5 := hU5.chg (by simp)
          have hσ5 := (hσ3.ext hc4).chg hc5 hs
          have hm5 := hm4.chg hc5 hs
          have hmb5 := hc5.of (hc4.of hmb3 (by simp)) hmbs
          refine wp_ord layOk mixed [(0, 11)] [] (by kernel_rfl) ?_
          refine wp_load (ld_of hU5.here rfl) ?_
          refine wp_load (ld_of hmb5 rfl) ?_
          refine wp_call (SI.mput_c M σ.names m.name (IntKind.i64.wrap ((σ.clips.length : Int) + 1)) p.n h5 ((hMb.chg hc4).chg hc5) hσ5.names hz2) ?_
          rintro _ h6 ⟨q2, rfl, hc6, hm6⟩
          refine wp_store (hc6.of hU5.here (by simp)) (by rfl) ?_
          intro h7 hU7
          have hc7 : Chg [sb] h6 h7 := hU7.chg (by simp)
          have hσ7 := (hσ5.ext hc6).chg hc7 hs
          have hr : clipF σ m = ((σ.clips.length : Int) + 1, 0, { σ with clips := insL ltI (σ.clips.length + 1) ⟨σ.clips.length + 1, m.name, m.owner⟩ σ.clips, names := insL ltS m.name (σ.clips.length + 1) σ.names }) := by
            unfold clipF
            rw [d1, d2, if_neg (by simp), d3, if_neg (by simp), if_neg (of_decide_eq_false d4)]
          have hcc : Chg [sb] h h7 := ((hc03.mono (by simp)).trans ((hc4.mono (by simp)).trans hc5)).trans ((hc6.mono (by simp)).trans hc7)
          rw [hwn] at hm5 hm6
          have hfin : StepOk M sb h (clipF σ m) (.tuple #[.int .i64 (IntKind.i64.wrap ((σ.clips.length : Int) + 1)), .int .i64 0]) h7 := by
            rw [hr]
            exact ⟨congrArg (fun z => Value.tuple #[.int .i64 z, .int .i64 0]) hwn, { p with c := q1, n := q2 }, hU7.here, ⟨(hm5.ext hc6).chg hc7 hs, hm6.chg hc7 hs, hσ7.bales, hσ7.lots, hσ7.totals⟩, hcc⟩
          exact wp_done ⟨rfl, hfin⟩
end Go.Xe
namespace Go.Xe
open Go

def freesO : List Nat → Ord → Ord
  | [], o => o
  | i :: l, o => .free i (freesO l o)
def altsO (ops : Array Oper) : List (Nat × List (Nat × Nat)) → Ord
  | [] => .non
  | (i, l) :: r => .alt i (seqO ops (rs l)) (altsO ops r)

section
variable {L : Lay} {P : Program} {c : World} {ro : Option Nat} {n : Nat} {h : Hp} {Q : Exit → St → Hp → Prop}
theorem wp_drawJ (hL : LayOk L P) (hmix : P.follows .mixedOrders = true) (D : List Nat) {ops : Array Oper} {id : Nat} {s : St} {k : St → X} (l0 : List (Nat × Nat)) (alts : List (Nat × List (Nat × Nat))) (xs : List Nat) (hok : okDraw ops xs (freesO (rs l0) (altsO ops alts)) = true) (keep : List Nat) (ds0 : List Deferred) (hds : s.ds = ds0) (C : List Value → Hp → Prop)
    (harm : (drawX L n D ops xs (freesO (rs l0) (altsO ops alts)) s (fun s' => X.done .normal s')).wp c P ro n h (fun _ s' h' => C (keep.map s'.ρ) h'))
    (hk : ∀ ρ0 vals h', C vals h' → (k ⟨ovr keep vals ρ0, ds0⟩).wp c P ro n h' Q) : (X.draw id ops s k).wp c P ro n h Q := by
  subst hds
  refine wp_draw (D := D) hL hmix _ hok ?_
  refine drawX_mono (M := fun _ => true) (k := fun s' => X.done .normal s') (QX := fun _ s' h' => C (keep.map s'.ρ) h') (fun _ _ _ _ _ => rfl) _ s h (fun s' h' _ hd hx => ?_) harm
  have := hk s'.ρ _ h' hx
  rw [ovr_self, ← hd] at this
  exact this
theorem wp_drawG (hL : LayOk L P) (hmix : P.follows .mixedOrders = true) (D : List Nat) {ops : Array Oper} {id : Nat} {s : St} {k : St → X} (ord : Array Oper → Ord) (xs : List Nat) (hok : okDraw ops xs (ord ops) = true) (keep : List Nat) (ds0 : List Deferred) (hds : s.ds = ds0) (C : List Value → Hp → Prop)
    (harm : (drawX L n D ops xs (ord ops) s (fun s' => X.done .normal s')).wp c P ro n h (fun _ s' h' => C (keep.map s'.ρ) h'))
    (hk : ∀ ρ0 vals h', C vals h' → (k ⟨ovr keep vals ρ0, ds0⟩).wp c P ro n h' Q) : (X.draw id ops s k).wp c P ro n h Q := by
  subst hds
  refine wp_draw (D := D) hL hmix _ hok ?_
  refine drawX_mono (M := fun _ => true) (k := fun s' => X.done .normal s') (QX := fun _ s' h' => C (keep.map s'.ρ) h') (fun _ _ _ _ _ => rfl) _ s h (fun s' h' _ hd hx => ?_) harm
  have := hk s'.ρ _ h' hx
  rw [ovr_self, ← hd] at this
  exact this
theorem wp_both {x y : X} (hx : x.wp c P ro n h Q) (hy : y.wp c P ro n h Q) : (X.both x y).wp c P ro n h Q := ⟨hx, hy⟩
/-- a part of a walk, behind which only some temporaries are known -/
theorem wp_cut {cd : Code} {s : St} {k : Exit → St → X} (keep : List Nat) (ds0 : List Deferred) (hds : s.ds = ds0) (hrf : noRF cd = true) (C : Exit → List Value → Hp → Prop)
    (hx : (pe L n cd s X.done).wp c P ro n h (fun e s' h' => C e (keep.map s'.ρ) h'))
    (hk : ∀ ρ0 e vals h', C e vals h' → (k e ⟨ovr keep vals ρ0, ds0⟩).wp c P ro n h' Q) : (pe L n cd s k).wp c P ro n h Q := by
  subst hds
  refine pe_mono (M := fun _ => true) cd s X.done k h (fun e s' h' => C e (keep.map s'.ρ) h') Q (fun _ _ => rfl) (fun e s' h' _ hd hx => ?_) hx
  have := hk s'.ρ e _ h' hx
  rw [ovr_self, ← hd hrf] at this
  exact this
end
end Go.Xe
namespace Go.Xe
open Go Go.Proofs
set_option maxRecDepth 20000
variable {c : World}
def tellS (σ : StateR) (clip : Int) (F : TotR → TotR) : StateR := { σ with totals := insL ltI clip (F (totOf σ.totals clip)) σ.totals }
def madeS (σ : StateR) (r : BaleR) : StateR := { σ with bales := insL ltI (σ.bales.length + 1) { r with no := σ.bales.length + 1 } σ.bales }
def keepS (σ : StateR) (r : BaleR) : StateR := { σ with bales := insL ltI r.no r σ.bales }
def recvF (σ : StateR) (m : MoveR) : Int × Int × StateR :=
  if (getL eqI m.no σ.clips).isSome = false then (0, 7, σ)
  else if m.grams < 1 then (0, 2, σ)
  else if m.grams > 1073741824 then (0, 2, σ)
  else if 512 ≤ σ.bales.length then (0, 9, σ)
  else (σ.bales.length + 1, 0, madeS (tellS σ m.no (recvT m.grams)) ⟨0, m.kind, m.grams, [⟨m.no, m.grams⟩], 0, ⟨#[]⟩, []⟩)
theorem receive_c (M : List Nat) (sb : Nat) (p : StP) (σ : StateR) (m : MoveR) (a : Option Addr) (cap : Nat) (h : Hp) (hM : Bd M h) (hsM : sb ∈ M) (hsb : StBlk h sb p) (hσ : StOk M h p σ) (hz : σ.bales.length < 900000) (hz2 : σ.totals.length < 900000) :
    Call c Tryz.prog 113 #[.pointer (some ⟨sb, 0, none⟩), vMove m a cap] h (StepOk M sb h (recvF σ m)) := by
  have hgv : ∃ x, CI.getV m.no σ.clips = .tuple #[vClip x, .bool (getL eqI m.no σ.clips).isSome] := by
    unfold CI.getV
    cases getL eqI m.no σ.clips with
    | none => exact ⟨⟨0, ⟨#[]⟩, ⟨#[]⟩⟩, rfl⟩
    | some t => exact ⟨t, rfl⟩
  obtain ⟨x, hgv⟩ := hgv
  refine call_of layOk 51 Tryz.func113 Tryz.ntmps113 rfl rfl rfl rfl ?_
  refine wp_new ?_
  intro mb h1 hN
  have hc1 := hN.chg []
  have hmbs : mb ∉ [sb] := by
    intro hm
    have h5 := List.mem_singleton.1 hm
    have h6 := hN.le
    have h7 := (Array.getElem?_eq_some_iff.1 hsb).1
    omega
  refine wp_drawJ layOk mixed [] [(0, 5)] [(6, [(7, 12)]), (10, [(6, 9), (11, 12)])] [10] (by kernel_rfl) [0, 3, 7] [] rfl
    (fun vals h2 => vals = [.pointer (some ⟨sb, 0, none⟩), .pointer (some ⟨mb, 0, none⟩), .bool (getL eqI m.no σ.clips).isSome] ∧ Chg [] h1 h2) ?_ ?_
  · refine wp_load (ld_of (hN.of hsb) rfl) ?_
    refine wp_load (ld_of hN.here rfl) ?_
    refine wp_both ?_ ?_
    · have hget := CI.get_c (c := c) M σ.clips m.no p.c h1 (hσ.ext hc1).clips
      rw [hgv] at hget
      refine wp_call hget ?_
      rintro _ h2 ⟨rfl, hc2⟩
      refine wp_new ?_
      intro b6 h3 hN3
      refine wp_store hN3.here (by rfl) ?_
      intro h4 hU4
      exact wp_done ⟨rfl, hU4.chgGe (hc2.trans (hN3.chg [])) (Nat.le_trans hc2.size hN3.le)⟩
    · refine wp_new ?_
      intro b6 h3 hN3
      have hget := CI.get_c (c := c) M σ.clips m.no p.c h3 (hσ.ext (hc1.trans (hN3.chg []))).clips
      rw [hgv] at hget
      refine wp_call hget ?_
      rintro _ h2 ⟨rfl, hc2⟩
      refine wp_store (hc2.of hN3.here (by simp)) (by rfl) ?_
      intro h4 hU4
      exact wp_done ⟨rfl, hU4.chgGe ((hN3.chg []).trans hc2) hN3.le⟩
  · rintro ρ0 _ h2 ⟨rfl, hc2⟩
    have hc02 := hc1.trans hc2
    have hmb := hc2.of hN.here (by simp)
    have hs2 := hc02.of hsb (by simp)
    have hσ2 := hσ.ext hc02
    have err : ∀ e h3, Chg [] h h3 → recvF σ m = (0, e, σ) → StepOk M sb h (recvF σ m) (.tuple #[.int .i64 0, .int .i64 e]) h3 := fun e h3 hc he => by
      rw [he]
      exact ⟨rfl, p, hc.of hsb (by simp), hσ.ext hc, hc.mono (by simp)⟩
    refine wp_br (fun g1 => ?_) (fun g1 => ?_)
    · have d1 : (!(getL eqI m.no σ.clips).isSome) = true := g1
      exact wp_done ⟨rfl, err 7 h2 hc02 (by unfold recvF; rw [if_pos (by simpa using d1)])⟩
    · have d1 : (!(getL eqI m.no σ.clips).isSome) = false := g1
      have e1 : ¬ (getL eqI m.no σ.clips).isSome = false := fun e => by rw [e] at d1; cases d1
      refine wp_load (ld_of hmb rfl) ?_
      refine wp_br (fun g2 => ?_) (fun g2 => ?_)
      · have d2 : m.grams < 1 := of_decide_eq_true g2
        repeat (first | refine wp_brT rfl ?_ | refine wp_brF rfl ?_)
        exact wp_done ⟨rfl, err 2 h2 hc02 (by unfold recvF; rw [if_neg e1, if_pos d2])⟩
      · have d2 : ¬ m.grams < 1 := of_decide_eq_false g2
        repeat (first | refine wp_brT rfl ?_ | refine wp_brF rfl ?_)
        refine wp_load (ld_of hmb rfl) ?_
        repeat (first | refine wp_brT rfl ?_ | refine wp_brF rfl ?_)
        refine wp_br (fun g3 => ?_) (fun g3 => ?_)
        · have d3 : m.grams > 1073741824 := of_decide_eq_true g3
          exact wp_done ⟨rfl, err 2 h2 hc02 (by unfold recvF; rw [if_neg e1, if_neg d2, if_pos d3])⟩
        · have d3 : ¬ m.grams > 1073741824 := of_decide_eq_false g3
          refine wp_call (full_c M sb p σ h2 hs2 hσ2) ?_
          rintro _ h3 ⟨rfl, hc3⟩
          have hc03 := hc02.trans hc3
          have hmb3 := hc3.of hmb (by simp)
          refine wp_br (fun g4 => ?_) (fun g4 => ?_)
          · have d4 : 512 ≤ σ.bales.length := of_decide_eq_true g4
            exact wp_done ⟨rfl, err 9 h3 hc03 (by unfold recvF; rw [if_neg e1, if_neg d2, if_neg d3, if_pos d4])⟩
          · have d4 : ¬ 512 ≤ σ.bales.length := of_decide_eq_false g4
            have hMb : Bd M h3 := hM.chg hc03
            have hrf : recvF σ m = ((σ.bales.length : Int) + 1, 0, madeS (tellS σ m.no (recvT m.grams)) ⟨0, m.kind, m.grams, [⟨m.no, m.grams⟩], 0, ⟨#[]⟩, []⟩) := by
              unfold recvF; rw [if_neg e1, if_neg d2, if_neg d3, if_neg d4]
            have htell := tell_c (c := c) M sb p σ m.no 156 [.pointer (some ⟨mb, 0, none⟩)] (recvT m.grams) h3 hMb hsM (hc03.of hsb (by simp)) (hσ.ext hc03) hz2 (fun tb h4 t hc4 hle ht =>
              recvT_c m a cap mb tb t h4 (hc4.of hmb3 (by simp)) ht)
            refine wp_load (ld_of hmb3 rfl) ?_
            refine wp_call htell ?_
            rintro _ h4 ⟨p4, hs4, hσ4, hc4⟩
            have hmb4 := hc4.of hmb3 hmbs
            refine wp_load (ld_of hmb4 rfl) ?_
            refine wp_load (ld_of hmb4 rfl) ?_
            refine wp_load (ld_of hmb4 rfl) ?_
            refine wp_load (ld_of hmb4 rfl) ?_
            refine wp_new ?_
            intro bp h5 hN5
            have hc5 := hN5.chg []
            have hM5 : Bd M h5 := (hMb.chg hc4).chg hc5
            have hpt : PartsAt M h5 (some ⟨bp, 0, none⟩) 1 [⟨m.no, m.grams⟩] := .inr ⟨bp, 0, _, rfl, (hMb.chg hc4).fresh hN5, hN5.here, Nat.le_refl _, Nat.le_refl _, rfl⟩
            have hmade := made_c (c := c) M sb p4 (tellS σ m.no (recvT m.grams)) ⟨0, m.kind, m.grams, [⟨m.no, m.grams⟩], 0, ⟨#[]⟩, []⟩ ⟨some ⟨bp, 0, none⟩, 1, none, 0⟩ h5 hM5 hsM (hc5.of hs4 (by simp)) (hσ4.ext hc5) ⟨hpt, .nil⟩ hz
            have hcc : Chg [sb] h h5 := (hc03.mono (by simp)).trans (hc4.trans (hc5.mono (by simp)))
            refine wp_call hmade ?_
            rintro _ h6 ⟨rfl, p6, hs6, hσ6, hc6⟩
            have hfin : StepOk M sb h (recvF σ m) (.tuple #[.int .i64 (σ.bales.length + 1), .int .i64 0]) h6 := by
              rw [hrf]
              exact ⟨rfl, p6, hs6, hσ6, hcc.trans hc6⟩
            exact wp_done ⟨rfl, hfin⟩
end Go.Xe
