/- Lemmas on the way: The move clip. A region that draws in several ways: behind it only some temporaries are known, whatever way was taken. The move receive. Kinds are compared. The library's sort of whole numbers, as it lies in this program. slices.Sorted(slices.Values(..)). Sorting whole numbers: by insertion; it is the sorted list. slices.Sort and slices.Sorted at whole numbers. What the moves do: plain functions. How great the shares of a division are. The move split. A state in a box that may be written to; closures that tell totals. Lists of pairs: what is behind a change. -/
import Derived.Laws.StructEq
import Derived.Shelf.Sort.Plain
import Derived.Test.YtebbgoklldmkiaaGreatProg
import Derived.Shelf.Slices.In.SortNone
import Derived.Test.YtebbgoklldmkiaaGreatQ6
import Derived.Test.YtebbgoklldmkiaaGreatQ4
import Derived.Test.YtebbgoklldmkiaaGreatQ5
namespace Go.Xe
open Go Go.Proofs
set_option maxRecDepth 20000
variable {c : World}
/-- what a move answers and leaves -/
def StepOk (M : List Nat) (sb : Nat) (h : Hp) (r : Int × Int × StateR) (v : Value) (h' : Hp) : Prop :=
  v = .tuple #[.int .i64 r.1, .int .i64 r.2.1] ∧ ∃ p', StBlk h' sb p' ∧ StOk M h' p' r.2.2 ∧ Chg [sb] h h'
def clipF (σ : StateR) (m : MoveR) : Int × Int × StateR :=
  if (!nameB m.name || !nameB m.owner) = true then (0, 2, σ)
  else if (getL eqS m.name σ.names).isSome = true then (0, 8, σ)
  else if (σ.clips.length : Int) + 1 > 64 then (0, 9, σ)
  else (σ.clips.length + 1, 0, { σ with clips := insL ltI (σ.clips.length + 1) ⟨σ.clips.length + 1, m.name, m.owner⟩ σ.clips, names := insL ltS m.name (σ.clips.length + 1) σ.names })

theorem clip_c (M : List Nat) (sb : Nat) (p : StP) (σ : StateR) (m : MoveR) (a : Option Addr) (cap : Nat) (h : Hp) (hM : Bd M h) (hsM : sb ∈ M) (hsb : StBlk h sb p) (hσ : StOk M h p σ) (hz : σ.clips.length < 900000) (hz2 : σ.names.length < 900000) :
    Call c Tryz.prog 112 #[.pointer (some ⟨sb, 0, none⟩), vMove m a cap] h (StepOk M sb h (clipF σ m)) := by
  have hgv : ∃ x, SI.getV m.name σ.names = .tuple #[.int .i64 x, .bool (getL eqS m.name σ.names).isSome] := by
    unfold SI.getV
    cases getL eqS m.name σ.names with
    | none => exact ⟨0, rfl⟩
    | some t => exact ⟨t, rfl⟩
  obtain ⟨x, hgv⟩ := hgv
  have hwn : IntKind.i64.wrap ((σ.clips.length : Int) + 1) = σ.clips.length + 1 := w64 (by omega) (by omega)
  refine call_of layOk 68 Tryz.func112 Tryz.ntmps112 rfl rfl rfl rfl ?_
  refine wp_new ?_
  intro mb h1 hN
  have hc1 := hN.chg []
  have hget := SI.get_c (c := c) M σ.names m.name p.n h1 (hσ.ext hc1).names
  rw [hgv] at hget
  refine wp_ord layOk mixed [(0, 11)] [] (by kernel_rfl) ?_
  refine wp_load (ld_of (hN.of hsb) rfl) ?_
  refine wp_load (ld_of hN.here rfl) ?_
  refine wp_call hget ?_
  rintro _ h2 ⟨rfl, hc2⟩
  have hc02 := hc1.trans hc2
  have hmb := hc2.of hN.here (by simp)
  refine wp_load (ld_of (hc02.of hsb (by simp)) rfl) ?_
  refine wp_call (CI.mlen_c M σ.clips p.c h2 (hσ.ext hc02).clips) ?_
  rintro _ h3 ⟨rfl, hc3⟩
  have hc03 := hc02.trans hc3
  have hmb3 := hc3.of hmb (by simp)
  refine wp_load (ld_of hmb3 rfl) ?_
  refine wp_call (name_c m.name h3) ?_
  rintro _ h3 ⟨rfl, rfl⟩
  have hs3 := hc03.of hsb (by simp)
  have hσ3 := hσ.ext hc03
  have err : ∀ e, clipF σ m = (0, e, σ) → StepOk M sb h (clipF σ m) (.tuple #[.int .i64 0, .int .i64 e]) h3 := fun e he => by
    rw [he]
    exact ⟨rfl, p, hs3, hσ3, hc03.mono (by simp)⟩
  refine wp_br (fun g1 => ?_) (fun g1 => ?_)
  · have d1 : (!nameB m.name) = true := g1
    repeat (first | refine wp_brT rfl ?_ | refine wp_brF rfl ?_)
    exact wp_done ⟨rfl, err 2 (by unfold clipF; rw [d1]; rfl)⟩
  · have d1 : (!nameB m.name) = false := g1
    repeat (first | refine wp_brT rfl ?_ | refine wp_brF rfl ?_)
    refine wp_load (ld_of hmb3 rfl) ?_
    repeat (first | refine wp_brT rfl ?_ | refine wp_brF rfl ?_)
    refine wp_call (name_c m.owner h3) ?_
    rintro _ h3 ⟨rfl, rfl⟩
    repeat (first | refine wp_brT rfl ?_ | refine wp_brF rfl ?_)
    refine wp_br (fun g2 => ?_) (fun g2 => ?_)
    · have d2 : (!nameB m.owner) = true := g2
      exact wp_done ⟨rfl, err 2 (by unfold clipF; rw [d1, d2]; rfl)⟩
    · have d2 : (!nameB m.owner) = false := g2
      refine wp_br (fun g3 => ?_) (fun g3 => ?_)
      · have d3 : (getL eqS m.name σ.names).isSome = true := g3
        exact wp_done ⟨rfl, err 8 (by unfold clipF; rw [d1, d2, if_neg (by simp), if_pos d3])⟩
      · have d3 : (getL eqS m.name σ.names).isSome = false := g3
        refine wp_br (fun g4 => ?_) (fun g4 => ?_)
        · have d4 : decide (IntKind.i64.wrap ((σ.clips.length : Int) + 1) > 64) = true := g4
          rw [hwn] at d4
          exact wp_done ⟨rfl, err 9 (by unfold clipF; rw [d1, d2, if_neg (by simp), d3, if_neg (by simp), if_pos (of_decide_eq_true d4)])⟩
        · have d4 : decide (IntKind.i64.wrap ((σ.clips.length : Int) + 1) > 64) = false := g4
          rw [hwn] at d4
          have hs : ∀ k, k ∈ [sb] → k ∈ M := fun k hk => by rcases List.mem_singleton.1 hk with rfl; exact hsM
          have hmbs : mb ∉ [sb] := by
            intro hm
            have h5 := List.mem_singleton.1 hm
            have h6 := hN.le
            have h7 := (Array.getElem?_eq_some_iff.1 hsb).1
            omega
          have hMb : Bd M h3 := hM.chg hc03
          refine wp_ord layOk mixed [(0, 15)] [] (by kernel_rfl) ?_
          refine wp_load (ld_of hs3 rfl) ?_
          refine wp_load (ld_of hmb3 rfl) ?_
          refine wp_load (ld_of hmb3 rfl) ?_
          refine wp_call (CI.mput_c M σ.clips (IntKind.i64.wrap ((σ.clips.length : Int) + 1)) ⟨IntKind.i64.wrap ((σ.clips.length : Int) + 1), m.name, m.owner⟩ p.c h3 hMb hσ3.clips hz) ?_
          rintro _ h4 ⟨q1, rfl, hc4, hm4⟩
          refine wp_store (hc4.of hs3 (by simp)) (by rfl) ?_
          intro h5 hU5
          have hc5 : Chg [sb] h4 h5 := hU5.chg (by simp)
          have hσ5 := (hσ3.ext hc4).chg hc5 hs
          have hm5 := hm4.chg hc5 hs
          have hmb5 := hc5.of (hc4.of hmb3 (by simp)) hmbs
          refine wp_ord layOk mixed [(0, 11)] [] (by kernel_rfl) ?_
          refine wp_load (ld_of hU5.here rfl) ?_
          refine wp_load (ld_of hmb5 rfl) ?_
          refine wp_call (SI.mput_c M σ.names m.name (IntKind.i64.wrap ((σ.clips.length : Int) + 1)) p.n h5 ((hMb.chg hc4).chg hc5) hσ5.names hz2) ?_
          rintro _ h6 ⟨q2, rfl, hc6, hm6⟩
          refine wp_store (hc6.of hU5.here (by simp)) (by rfl) ?_
          intro h7 hU7
          have hc7 : Chg [sb] h6 h7 := hU7.chg (by simp)
          have hσ7 := (hσ5.ext hc6).chg hc7 hs
          have hr : clipF σ m = ((σ.clips.length : Int) + 1, 0, { σ with clips := insL ltI (σ.clips.length + 1) ⟨σ.clips.length + 1, m.name, m.owner⟩ σ.clips, names := insL ltS m.name (σ.clips.length + 1) σ.names }) := by
            unfold clipF
            rw [d1, d2, if_neg (by simp), d3, if_neg (by simp), if_neg (of_decide_eq_false d4)]
          have hcc : Chg [sb] h h7 := ((hc03.mono (by simp)).trans ((hc4.mono (by simp)).trans hc5)).trans ((hc6.mono (by simp)).trans hc7)
          rw [hwn] at hm5 hm6
          have hfin : StepOk M sb h (clipF σ m) (.tuple #[.int .i64 (IntKind.i64.wrap ((σ.clips.length : Int) + 1)), .int .i64 0]) h7 := by
            rw [hr]
            exact ⟨congrArg (fun z => Value.tuple #[.int .i64 z, .int .i64 0]) hwn, { p with c := q1, n := q2 }, hU7.here, ⟨(hm5.ext hc6).chg hc7 hs, hm6.chg hc7 hs, hσ7.bales, hσ7.lots, hσ7.totals⟩, hcc⟩
          exact wp_done ⟨rfl, hfin⟩
end Go.Xe
namespace Go.Xe
open Go

def freesO : List Nat → Ord → Ord
  | [], o => o
  | i :: l, o => .free i (freesO l o)
def altsO (ops : Array Oper) : List (Nat × List (Nat × Nat)) → Ord
  | [] => .non
  | (i, l) :: r => .alt i (seqO ops (rs l)) (altsO ops r)

section
variable {L : Lay} {P : Program} {c : World} {ro : Option Nat} {n : Nat} {h : Hp} {Q : Exit → St → Hp → Prop}
theorem wp_drawJ (hL : LayOk L P) (hmix : P.follows .mixedOrders = true) (D : List Nat) {ops : Array Oper} {id : Nat} {s : St} {k : St → X} (l0 : List (Nat × Nat)) (alts : List (Nat × List (Nat × Nat))) (xs : List Nat) (hok : okDraw ops xs (freesO (rs l0) (altsO ops alts)) = true) (keep : List Nat) (ds0 : List Deferred) (hds : s.ds = ds0) (C : List Value → Hp → Prop)
    (harm : (drawX L n D ops xs (freesO (rs l0) (altsO ops alts)) s (fun s' => X.done .normal s')).wp c P ro n h (fun _ s' h' => C (keep.map s'.ρ) h'))
    (hk : ∀ ρ0 vals h', C vals h' → (k ⟨ovr keep vals ρ0, ds0⟩).wp c P ro n h' Q) : (X.draw id ops s k).wp c P ro n h Q := by
  subst hds
  refine wp_draw (D := D) hL hmix _ hok ?_
  refine drawX_mono (M := fun _ => true) (k := fun s' => X.done .normal s') (QX := fun _ s' h' => C (keep.map s'.ρ) h') (fun _ _ _ _ _ => rfl) _ s h (fun s' h' _ hd hx => ?_) harm
  have := hk s'.ρ _ h' hx
  rw [ovr_self, ← hd] at this
  exact this
theorem wp_drawG (hL : LayOk L P) (hmix : P.follows .mixedOrders = true) (D : List Nat) {ops : Array Oper} {id : Nat} {s : St} {k : St → X} (ord : Array Oper → Ord) (xs : List Nat) (hok : okDraw ops xs (ord ops) = true) (keep : List Nat) (ds0 : List Deferred) (hds : s.ds = ds0) (C : List Value → Hp → Prop)
    (harm : (drawX L n D ops xs (ord ops) s (fun s' => X.done .normal s')).wp c P ro n h (fun _ s' h' => C (keep.map s'.ρ) h'))
    (hk : ∀ ρ0 vals h', C vals h' → (k ⟨ovr keep vals ρ0, ds0⟩).wp c P ro n h' Q) : (X.draw id ops s k).wp c P ro n h Q := by
  subst hds
  refine wp_draw (D := D) hL hmix _ hok ?_
  refine drawX_mono (M := fun _ => true) (k := fun s' => X.done .normal s') (QX := fun _ s' h' => C (keep.map s'.ρ) h') (fun _ _ _ _ _ => rfl) _ s h (fun s' h' _ hd hx => ?_) harm
  have := hk s'.ρ _ h' hx
  rw [ovr_self, ← hd] at this
  exact this
theorem wp_both {x y : X} (hx : x.wp c P ro n h Q) (hy : y.wp c P ro n h Q) : (X.both x y).wp c P ro n h Q := ⟨hx, hy⟩
/-- a part of a walk, behind which only some temporaries are known -/
theorem wp_cut {cd : Code} {s : St} {k : Exit → St → X} (keep : List Nat) (ds0 : List Deferred) (hds : s.ds = ds0) (hrf : noRF cd = true) (C : Exit → List Value → Hp → Prop)
    (hx : (pe L n cd s X.done).wp c P ro n h (fun e s' h' => C e (keep.map s'.ρ) h'))
    (hk : ∀ ρ0 e vals h', C e vals h' → (k e ⟨ovr keep vals ρ0, ds0⟩).wp c P ro n h' Q) : (pe L n cd s k).wp c P ro n h Q := by
  subst hds
  refine pe_mono (M := fun _ => true) cd s X.done k h (fun e s' h' => C e (keep.map s'.ρ) h') Q (fun _ _ => rfl) (fun e s' h' _ hd hx => ?_) hx
  have := hk s'.ρ e _ h' hx
  rw [ovr_self, ← hd hrf] at this
  exact this
end
end Go.Xe
namespace Go.Xe
open Go Go.Proofs
set_option maxRecDepth 20000
variable {c : World}
def tellS (σ : StateR) (clip : Int) (F : TotR → TotR) : StateR := { σ with totals := insL ltI clip (F (totOf σ.totals clip)) σ.totals }
def madeS (σ : StateR) (r : BaleR) : StateR := { σ with bales := insL ltI (σ.bales.length + 1) { r with no := σ.bales.length + 1 } σ.bales }
def keepS (σ : StateR) (r : BaleR) : StateR := { σ with bales := insL ltI r.no r σ.bales }
def recvF (σ : StateR) (m : MoveR) : Int × Int × StateR :=
  if (getL eqI m.no σ.clips).isSome = false then (0, 7, σ)
  else if m.grams < 1 then (0, 2, σ)
  else if m.grams > 1073741824 then (0, 2, σ)
  else if 512 ≤ σ.bales.length then (0, 9, σ)
  else (σ.bales.length + 1, 0, madeS (tellS σ m.no (recvT m.grams)) ⟨0, m.kind, m.grams, [⟨m.no, m.grams⟩], 0, ⟨#[]⟩, []⟩)
theorem receive_c (M : List Nat) (sb : Nat) (p : StP) (σ : StateR) (m : MoveR) (a : Option Addr) (cap : Nat) (h : Hp) (hM : Bd M h) (hsM : sb ∈ M) (hsb : StBlk h sb p) (hσ : StOk M h p σ) (hz : σ.bales.length < 900000) (hz2 : σ.totals.length < 900000) :
    Call c Tryz.prog 113 #[.pointer (some ⟨sb, 0, none⟩), vMove m a cap] h (StepOk M sb h (recvF σ m)) := by
  have hgv : ∃ x, CI.getV m.no σ.clips = .tuple #[vClip x, .bool (getL eqI m.no σ.clips).isSome] := by
    unfold CI.getV
    cases getL eqI m.no σ.clips with
    | none => exact ⟨⟨0, ⟨#[]⟩, ⟨#[]⟩⟩, rfl⟩
    | some t => exact ⟨t, rfl⟩
  obtain ⟨x, hgv⟩ := hgv
  refine call_of layOk 51 Tryz.func113 Tryz.ntmps113 rfl rfl rfl rfl ?_
  refine wp_new ?_
  intro mb h1 hN
  have hc1 := hN.chg []
  have hmbs : mb ∉ [sb] := by
    intro hm
    have h5 := List.mem_singleton.1 hm
    have h6 := hN.le
    have h7 := (Array.getElem?_eq_some_iff.1 hsb).1
    omega
  refine wp_drawJ layOk mixed [] [(0, 5)] [(6, [(7, 12)]), (10, [(6, 9), (11, 12)])] [10] (by kernel_rfl) [0, 3, 7] [] rfl
    (fun vals h2 => vals = [.pointer (some ⟨sb, 0, none⟩), .pointer (some ⟨mb, 0, none⟩), .bool (getL eqI m.no σ.clips).isSome] ∧ Chg [] h1 h2) ?_ ?_
  · refine wp_load (ld_of (hN.of hsb) rfl) ?_
    refine wp_load (ld_of hN.here rfl) ?_
    refine wp_both ?_ ?_
    · have hget := CI.get_c (c := c) M σ.clips m.no p.c h1 (hσ.ext hc1).clips
      rw [hgv] at hget
      refine wp_call hget ?_
      rintro _ h2 ⟨rfl, hc2⟩
      refine wp_new ?_
      intro b6 h3 hN3
      refine wp_store hN3.here (by rfl) ?_
      intro h4 hU4
      exact wp_done ⟨rfl, hU4.chgGe (hc2.trans (hN3.chg [])) (Nat.le_trans hc2.size hN3.le)⟩
    · refine wp_new ?_
      intro b6 h3 hN3
      have hget := CI.get_c (c := c) M σ.clips m.no p.c h3 (hσ.ext (hc1.trans (hN3.chg []))).clips
      rw [hgv] at hget
      refine wp_call hget ?_
      rintro _ h2 ⟨rfl, hc2⟩
      refine wp_store (hc2.of hN3.here (by simp)) (by rfl) ?_
      intro h4 hU4
      exact wp_done ⟨rfl, hU4.chgGe ((hN3.chg []).trans hc2) hN3.le⟩
  · rintro ρ0 _ h2 ⟨rfl, hc2⟩
    have hc02 := hc1.trans hc2
    have hmb := hc2.of hN.here (by simp)
    have hs2 := hc02.of hsb (by simp)
    have hσ2 := hσ.ext hc02
    have err : ∀ e h3, Chg [] h h3 → recvF σ m = (0, e, σ) → StepOk M sb h (recvF σ m) (.tuple #[.int .i64 0, .int .i64 e]) h3 := fun e h3 hc he => by
      rw [he]
      exact ⟨rfl, p, hc.of hsb (by simp), hσ.ext hc, hc.mono (by simp)⟩
    refine wp_br (fun g1 => ?_) (fun g1 => ?_)
    · have d1 : (!(getL eqI m.no σ.clips).isSome) = true := g1
      exact wp_done ⟨rfl, err 7 h2 hc02 (by unfold recvF; rw [if_pos (by simpa using d1)])⟩
    · have d1 : (!(getL eqI m.no σ.clips).isSome) = false := g1
      have e1 : ¬ (getL eqI m.no σ.clips).isSome = false := fun e => by rw [e] at d1; cases d1
      refine wp_load (ld_of hmb rfl) ?_
      refine wp_br (fun g2 => ?_) (fun g2 => ?_)
      · have d2 : m.grams < 1 := of_decide_eq_true g2
        repeat (first | refine wp_brT rfl ?_ | refine wp_brF rfl ?_)
        exact wp_done ⟨rfl, err 2 h2 hc02 (by unfold recvF; rw [if_neg e1, if_pos d2])⟩
      · have d2 : ¬ m.grams < 1 := of_decide_eq_false g2
        repeat (first | refine wp_brT rfl ?_ | refine wp_brF rfl ?_)
        refine wp_load (ld_of hmb rfl) ?_
        repeat (first | refine wp_brT rfl ?_ | refine wp_brF rfl ?_)
        refine wp_br (fun g3 => ?_) (fun g3 => ?_)
        · have d3 : m.grams > 1073741824 := of_decide_eq_true g3
          exact wp_done ⟨rfl, err 2 h2 hc02 (by unfold recvF; rw [if_neg e1, if_neg d2, if_pos d3])⟩
        · have d3 : ¬ m.grams > 1073741824 := of_decide_eq_false g3
          refine wp_call (full_c M sb p σ h2 hs2 hσ2) ?_
          rintro _ h3 ⟨rfl, hc3⟩
          have hc03 := hc02.trans hc3
          have hmb3 := hc3.of hmb (by simp)
          refine wp_br (fun g4 => ?_) (fun g4 => ?_)
          · have d4 : 512 ≤ σ.bales.length := of_decide_eq_true g4
            exact wp_done ⟨rfl, err 9 h3 hc03 (by unfold recvF; rw [if_neg e1, if_neg d2, if_neg d3, if_pos d4])⟩
          · have d4 : ¬ 512 ≤ σ.bales.length := of_decide_eq_false g4
            have hMb : Bd M h3 := hM.chg hc03
            have hrf : recvF σ m = ((σ.bales.length : Int) + 1, 0, madeS (tellS σ m.no (recvT m.grams)) ⟨0, m.kind, m.grams, [⟨m.no, m.grams⟩], 0, ⟨#[]⟩, []⟩) := by
              unfold recvF; rw [if_neg e1, if_neg d2, if_neg d3, if_neg d4]
            have htell := tell_c (c := c) M sb p σ m.no 156 [.pointer (some ⟨mb, 0, none⟩)] (recvT m.grams) h3 hMb hsM (hc03.of hsb (by simp)) (hσ.ext hc03) hz2 (fun tb h4 t hc4 hle ht =>
              recvT_c m a cap mb tb t h4 (hc4.of hmb3 (by simp)) ht)
            refine wp_load (ld_of hmb3 rfl) ?_
            refine wp_call htell ?_
            rintro _ h4 ⟨p4, hs4, hσ4, hc4⟩
            have hmb4 := hc4.of hmb3 hmbs
            refine wp_load (ld_of hmb4 rfl) ?_
            refine wp_load (ld_of hmb4 rfl) ?_
            refine wp_load (ld_of hmb4 rfl) ?_
            refine wp_load (ld_of hmb4 rfl) ?_
            refine wp_new ?_
            intro bp h5 hN5
            have hc5 := hN5.chg []
            have hM5 : Bd M h5 := (hMb.chg hc4).chg hc5
            have hpt : PartsAt M h5 (some ⟨bp, 0, none⟩) 1 [⟨m.no, m.grams⟩] := .inr ⟨bp, 0, _, rfl, (hMb.chg hc4).fresh hN5, hN5.here, Nat.le_refl _, Nat.le_refl _, rfl⟩
            have hmade := made_c (c := c) M sb p4 (tellS σ m.no (recvT m.grams)) ⟨0, m.kind, m.grams, [⟨m.no, m.grams⟩], 0, ⟨#[]⟩, []⟩ ⟨some ⟨bp, 0, none⟩, 1, none, 0⟩ h5 hM5 hsM (hc5.of hs4 (by simp)) (hσ4.ext hc5) ⟨hpt, .nil⟩ hz
            have hcc : Chg [sb] h h5 := (hc03.mono (by simp)).trans (hc4.trans (hc5.mono (by simp)))
            refine wp_call hmade ?_
            rintro _ h6 ⟨rfl, p6, hs6, hσ6, hc6⟩
            have hfin : StepOk M sb h (recvF σ m) (.tuple #[.int .i64 (σ.bales.length + 1), .int .i64 0]) h6 := by
              rw [hrf]
              exact ⟨rfl, p6, hs6, hσ6, hcc.trans hc6⟩
            exact wp_done ⟨rfl, hfin⟩
end Go.Xe
namespace Go.Xe
open Go Go.Proofs
set_option maxRecDepth 20000
def kindB (a b : KindR) : Bool := a.k0 == b.k0 && a.k1 == b.k1 && a.k2 == b.k2 && a.k3 == b.k3
def vKind (a : KindR) : Value := .agg #[.int .u8 a.k0, .int .u8 a.k1, .int .u8 a.k2, .int .u8 a.k3]
theorem run_part_u8 (xs : Array Value) (i : Nat) (x : Value) (hx : xs[i]? = some x) (w : World) : (part 5 xs i).run Tryz.prog w = .ok x w := by
  have h : Tryz.prog.underlying 5 = some (.int .u8) := layOk.und 5 ti5 rfl
  unfold part
  simp [run_underlying h, hx]
theorem run_size5 (w : World) : (sizeOf 5).run Tryz.prog w = .ok 1 w := by
  obtain ⟨x, h1, _, h3, _⟩ := layOk.inf 5 ti5 rfl
  have h4 : x.size = 1 := h3
  simp [sizeOf, typeInfo, h1, h4]
theorem kind_eq (d : Nat) (a b : KindR) (w : World) : (Op.equalIn (d + 2) 39 (vKind a) (vKind b)).run Tryz.prog w = .ok (kindB a b) w := by
  have h : Tryz.prog.underlying 39 = some (.array 4 5) := layOk.und 39 ti39 rfl
  have h5 : Tryz.prog.underlying 5 = some (.int .u8) := layOk.und 5 ti5 rfl
  unfold vKind
  rw [Op.equalIn]
  simp only [Sem.run_bind, run_underlying h, Result.andThen_ok, run_size5, Std.Legacy.Range.forIn_eq_forIn_range', Std.Legacy.Range.size, Nat.sub_zero, Nat.add_sub_cancel, Nat.div_one, List.range', List.forIn_cons, List.forIn_nil]
  have pp : ∀ (x : KindR) (w : World), (part 5 #[.int .u8 x.k0, .int .u8 x.k1, .int .u8 x.k2, .int .u8 x.k3] 0).run Tryz.prog w = .ok (.int .u8 x.k0) w ∧ (part 5 #[.int .u8 x.k0, .int .u8 x.k1, .int .u8 x.k2, .int .u8 x.k3] 1).run Tryz.prog w = .ok (.int .u8 x.k1) w ∧
      (part 5 #[.int .u8 x.k0, .int .u8 x.k1, .int .u8 x.k2, .int .u8 x.k3] 2).run Tryz.prog w = .ok (.int .u8 x.k2) w ∧ (part 5 #[.int .u8 x.k0, .int .u8 x.k1, .int .u8 x.k2, .int .u8 x.k3] 3).run Tryz.prog w = .ok (.int .u8 x.k3) w := fun x w =>
    ⟨run_part_u8 _ _ _ rfl w, run_part_u8 _ _ _ rfl w, run_part_u8 _ _ _ rfl w, run_part_u8 _ _ _ rfl w⟩
  have ee : ∀ (x y : Int) (w : World), (Op.equalIn (d + 1) 5 (.int .u8 x) (.int .u8 y)).run Tryz.prog w = .ok (x == y) w := fun x y w => run_equalIn_int w d 5 .u8 .u8 x y h5
  simp only [Nat.zero_mul, Nat.zero_add, Nat.one_mul, Nat.mul_one, Nat.reduceAdd, (pp a _).1, (pp b _).1, Result.andThen_ok, ee]
  unfold kindB
  cases h0 : a.k0 == b.k0 with
  | false => simp only [Bool.not_false, if_true, Sem.run_pure, Result.andThen_ok, Bool.false_and]
  | true =>
    simp only [Bool.not_true, Bool.false_eq_true, if_false, Sem.run_pure, Result.andThen_ok, Bool.true_and, Sem.run_bind, (pp a _).2.1, (pp b _).2.1, ee]
    cases h1 : a.k1 == b.k1 with
    | false => simp only [Bool.not_false, if_true, Sem.run_pure, Result.andThen_ok, Bool.false_and]
    | true =>
      simp only [Bool.not_true, Bool.false_eq_true, if_false, Sem.run_pure, Result.andThen_ok, Bool.true_and, Sem.run_bind, (pp a _).2.2.1, (pp b _).2.2.1, ee]
      cases h2 : a.k2 == b.k2 with
      | false => simp only [Bool.not_false, if_true, Sem.run_pure, Result.andThen_ok, Bool.false_and]
      | true =>
        simp only [Bool.not_true, Bool.false_eq_true, if_false, Sem.run_pure, Result.andThen_ok, Bool.true_and, Sem.run_bind, (pp a _).2.2.2, (pp b _).2.2.2, ee]
        cases h3 : a.k3 == b.k3 <;> simp
theorem kind_guard (op : BinOp) (xo yo : Operand) (a b : KindR) (w : World) : (eqGuard op 39 xo yo (vKind a) (vKind b)).run Tryz.prog w = .ok () w :=
  run_eqGuard_agg w op 39 xo yo _ _ (by kernel_rfl)
theorem run_kindNe (xo yo : Operand) (a b : KindR) (w : World) : (do eqGuard .neq 39 xo yo (vKind a) (vKind b); binOp .neq 39 (vKind a) (vKind b) : Sem Value).run Tryz.prog w = .ok (.bool (!kindB a b)) w := by
  simp only [Sem.run_bind, kind_guard, Result.andThen_ok]
  unfold vKind
  rw [run_neq_struct]
  have := kind_eq 9998 a b w
  unfold vKind at this
  rw [this]
  rfl
theorem run_kindEq (xo yo : Operand) (a b : KindR) (w : World) : (do eqGuard .eql 39 xo yo (vKind a) (vKind b); binOp .eql 39 (vKind a) (vKind b) : Sem Value).run Tryz.prog w = .ok (.bool (kindB a b)) w := by
  simp only [Sem.run_bind, kind_guard, Result.andThen_ok]
  unfold vKind
  rw [run_eql_struct]
  have := kind_eq 9998 a b w
  unfold vKind at this
  rw [this]
  rfl
section
variable {c : World} {ro : Option Nat} {n : Nat} {h : Hp} {Q : Exit → St → Hp → Prop}
/-- an operation that only reckons -/
theorem wp_sem0 {P : Program} {e : Option (List Nat)} {s : Sem Value} {k : Value → X} (v : Value) (hs : ∀ w, s.run P w = .ok v w) (hk : (k v).wp c P ro n h Q) : (X.sem e s k).wp c P ro n h Q := by
  intro w hw hc
  subst hw
  exact ⟨v, w, hs w, hc, Kp.refl _ _, hk⟩
end
end Go.Xe
namespace Go.Proofs
open Go.Shelf
def Tryz.lays189_ren : Go.Shelf.Ren := ⟨fun | 189 => 87 | 125 => 130 | 257 => 129 | 128 => 187 | 129 => 188 | 294 => 178 | 295 => 179 | 296 => 180 | 297 => 181 | 298 => 182 | 299 => 183 | 216 => 184 | 300 => 185 | 301 => 186 | 328 => 220 | 329 => 221 | 330 => 222 | 331 => 223 | 332 => 224 | 215 => 225 | 343 => 247 | n => n, fun | 28 => 34 | 3 => 3 | 46 => 201 | 0 => 0 | 51 => 265 | 53 => 267 | 4 => 4 | 183 => 258 | 182 => 257 | 131 => 223 | 5 => 5 | 9 => 9 | 218 => 294 | 222 => 215 | 228 => 322 | 229 => 307 | n => n, fun | n => n⟩
theorem Tryz.lays189 : Go.Proofs.Lays.n189 Tryz.prog Tryz.lays189_ren := {
  mixed := by kernel_rfl,
  f125 := Tryz.func130.trans (congrArg some (by kernel_rfl)),
  f128 := Tryz.func187.trans (congrArg some (by kernel_rfl)),
  f129 := Tryz.func188.trans (congrArg some (by kernel_rfl)),
  f189 := Tryz.func87.trans (congrArg some (by kernel_rfl)),
  f215 := Tryz.func225.trans (congrArg some (by kernel_rfl)),
  f216 := Tryz.func184.trans (congrArg some (by kernel_rfl)),
  f257 := Tryz.func129.trans (congrArg some (by kernel_rfl)),
  f294 := Tryz.func178.trans (congrArg some (by kernel_rfl)),
  f295 := Tryz.func179.trans (congrArg some (by kernel_rfl)),
  f296 := Tryz.func180.trans (congrArg some (by kernel_rfl)),
  f297 := Tryz.func181.trans (congrArg some (by kernel_rfl)),
  f298 := Tryz.func182.trans (congrArg some (by kernel_rfl)),
  f299 := Tryz.func183.trans (congrArg some (by kernel_rfl)),
  f300 := Tryz.func185.trans (congrArg some (by kernel_rfl)),
  f301 := Tryz.func186.trans (congrArg some (by kernel_rfl)),
  f328 := Tryz.func220.trans (congrArg some (by kernel_rfl)),
  f329 := Tryz.func221.trans (congrArg some (by kernel_rfl)),
  f330 := Tryz.func222.trans (congrArg some (by kernel_rfl)),
  f331 := Tryz.func223.trans (congrArg some (by kernel_rfl)),
  f332 := Tryz.func224.trans (congrArg some (by kernel_rfl)),
  f343 := Tryz.func247.trans (congrArg some (by kernel_rfl)),
  t0 := Tryz.underlying0,
  a0 := Tryz.isAgg0,
  z0 := Tryz.sizeOf0,
  v0 := Tryz.zeroValue0,
  t3 := Tryz.underlying3,
  a3 := Tryz.isAgg3,
  z3 := Tryz.sizeOf3,
  v3 := Tryz.zeroValue3,
  t4 := Tryz.underlying4,
  a4 := Tryz.isAgg4,
  z4 := Tryz.sizeOf4,
  v4 := Tryz.zeroValue4,
  t5 := Tryz.underlying5,
  a5 := Tryz.isAgg5,
  z5 := Tryz.sizeOf5,
  v5 := Tryz.zeroValue5,
  t9 := Tryz.underlying9,
  a9 := Tryz.isAgg9,
  z9 := Tryz.sizeOf9,
  v9 := Tryz.zeroValue9,
  t28 := Tryz.underlying34,
  a28 := Tryz.isAgg34,
  z28 := Tryz.sizeOf34,
  v28 := Tryz.zeroValue34,
  t46 := Tryz.underlying201,
  a46 := Tryz.isAgg201,
  z46 := Tryz.sizeOf201,
  v46 := Tryz.zeroValue201,
  t51 := Tryz.underlying265,
  a51 := Tryz.isAgg265,
  z51 := Tryz.sizeOf265,
  v51 := Tryz.zeroValue265,
  t53 := Tryz.underlying267,
  a53 := Tryz.isAgg267,
  z53 := Tryz.sizeOf267,
  v53 := Tryz.zeroValue267,
  t131 := Tryz.underlying223,
  a131 := Tryz.isAgg223,
  z131 := Tryz.sizeOf223,
  v131 := Tryz.zeroValue223,
  t182 := Tryz.underlying257,
  a182 := Tryz.isAgg257,
  z182 := Tryz.sizeOf257,
  v182 := Tryz.zeroValue257,
  t183 := Tryz.underlying258,
  a183 := Tryz.isAgg258,
  z183 := Tryz.sizeOf258,
  v183 := Tryz.zeroValue258,
  t218 := Tryz.underlying294,
  a218 := Tryz.isAgg294,
  z218 := Tryz.sizeOf294,
  v218 := Tryz.zeroValue294,
  t222 := Tryz.underlying215,
  a222 := Tryz.isAgg215,
  z222 := Tryz.sizeOf215,
  v222 := Tryz.zeroValue215,
  t228 := Tryz.underlying322,
  a228 := Tryz.isAgg322,
  z228 := Tryz.sizeOf322,
  v228 := Tryz.zeroValue322,
  t229 := Tryz.underlying307,
  a229 := Tryz.isAgg307,
  z229 := Tryz.sizeOf307,
  v229 := Tryz.zeroValue307 }
end Go.Proofs
namespace Go.Xe
open Go Go.Proofs
set_option maxRecDepth 20000
variable {c : World}
def elV (l : List Int) : List (List Value) := l.map fun v => [Value.int .i64 v]
theorem valuesIt_c (M : List Nat) (nos : List Int) (a : Option Addr) (cap b1 l : Nat) (hz : nos.length < 900000) (J : Nat → Hp → Prop)
    (hJ : ∀ i h, J i h → IntsAt M h a cap nos ∧ h[b1]? = some (.cells #[.slice a nos.length cap] 34 (0, 0))) (h : Hp) (ha : J 0 h)
    (hy : ∀ i x h, (elV nos)[i]? = some x → J i h → Yield c Tryz.prog l x.toArray h fun r h' => r = .bool true ∧ J (i + 1) h') :
    Call c Tryz.prog 214 #[.func (.yield l) #[] #[], .pointer (some ⟨b1, 0, none⟩)] h fun _ h' => J nos.length h' := by
  refine call_of layOk 16 Tryz.func214 Tryz.ntmps214 rfl rfl rfl rfl ?_
  refine wp_load (ld_of (hJ 0 h ha).2 rfl) ?_
  refine wp_loopK layOk [7, 4] 8 15 rfl [0, 1, 5, 6] [.func (.yield l) #[] #[], .pointer (some ⟨b1, 0, none⟩), .slice a nos.length cap, .int .i64 nos.length] rfl [] rfl
    (fun m vals h' => ∃ (j : Nat) (u : Value), vals = [.int .i64 j, u] ∧ j + m = nos.length ∧ J j h') nos.length ⟨0, _, rfl, by omega, ha⟩ ?_
  rintro ρ0 m g vals h1 - ⟨j, u, rfl, hjm, hj1⟩
  refine wp_br (fun g1 => ?_) (fun g1 => ?_)
  · have hj' : (j : Int) < (nos.length : Int) := of_decide_eq_true g1
    clear g1
    have hj : j < nos.length := by omega
    have hje := List.getElem?_eq_getElem hj
    have hxe : (elV nos)[j]? = some [Value.int .i64 nos[j]] := by simp [elV, hje]
    have hn1 := (hJ j h1 hj1).1
    obtain ⟨b, o, hqa⟩ := hn1.ptr (i := ti3) hj
    rw [hqa] at hn1 ⊢
    generalize nos[j] = no at hje hxe
    refine wp_chk ⟨by omega, by omega⟩ ?_
    refine wp_load (hn1.ld1 (i := ti3) enI hje) ?_
    refine wp_round (hy j _ h1 hxe hj1) ?_
    rintro _ h2 ⟨rfl, hj2⟩
    refine wp_brF rfl ?_
    refine wp_done ⟨m - 1, by omega, j + 1, .int .i64 no, ?_, by omega, hj2⟩
    exact congrArg (fun z => [Value.int .i64 z, .int .i64 no]) (by rw [w64 (by omega) (by omega)]; omega)
  · have hj' : ¬ ((j : Int) < (nos.length : Int)) := of_decide_eq_false g1
    clear g1
    have : j = nos.length := by omega
    subst this
    refine wp_done ?_
    show X.wp _ _ _ _ _ _ _
    exact wp_done ⟨rfl, hj1⟩
theorem appendSeq_c (M : List Nat) (nos : List Int) (a : Option Addr) (cap b1 : Nat) (hz : nos.length < 900000) (h : Hp) (hn : IntsAt M h a cap nos) (hb : h[b1]? = some (.cells #[.slice a nos.length cap] 34 (0, 0))) :
    Call c Tryz.prog 243 #[.slice none 0 0, .func (.func 214) #[] #[.pointer (some ⟨b1, 0, none⟩)]] h fun v h' => ∃ a' cap' blk', v = .slice a' nos.length cap' ∧ IntsOwn h' a' cap' nos blk' ∧ Chg [] h h' ∧ Fresh h blk' := by
  refine call_ofM layOk 13 Tryz.func243 Tryz.ntmps243 rfl rfl rfl ?_
  refine wp_new ?_
  intro b2 h1 hN
  have hc1 := hN.chg []
  have hle := hN.le
  refine wp_rangeF (gf := 214) (cap := #[.pointer (some ⟨b1, 0, none⟩)]) layOk rfl rfl (elV nos) (fun x hx => by
      obtain ⟨v, _, rfl⟩ := List.mem_map.1 hx
      rfl)
    (fun i h' => ∃ a3 cap3 blk3, h'[b2]? = some (.cells #[.slice a3 (nos.take i).length cap3] 34 (0, 0)) ∧ IntsOwn h' a3 cap3 (nos.take i) blk3 ∧ Chg [b2] h1 h' ∧ Fresh h blk3 ∧ h1.size + 2 ≤ h'.size ∧ ∀ g, blk3 = some g → g ≠ h1.size ∧ g ≠ h1.size + 1) ?_ ?_ ?_ ?_ ?_
  · rintro i ha hb o ⟨a3, cap3, blk3, e1, e2, e3, e4, e5, e6⟩ hU
    have hb2 := (Array.getElem?_eq_some_iff.1 hN.here).1
    refine ⟨a3, cap3, blk3, hU.of e1 (by omega), e2.wr hU (fun g hg => (e6 g hg).2), ⟨by rw [hU.size]; exact e3.size, fun k hk hm => (hU.other k (by omega)).trans (e3.same k hk hm)⟩, e4, by rw [hU.size]; exact e5, e6⟩
  · intro h2 hc2 hs2
    exact ⟨none, 0, none, hc2.of hN.here (by simp), OwnAt.nil, hc2.mono (by simp), .none, by omega, fun g hg => by cases hg⟩
  · intro J h2 hc2 hJI hyl hJ0
    have hlen : (elV nos).length = nos.length := by simp [elV]
    rw [hlen]
    refine valuesIt_c (M := b2 :: M) nos a cap b1 (h2.size - 1) hz J (fun i h' hj => ?_) h2 hJ0 hyl
    obtain ⟨a3, cap3, blk3, e1, e2, e3, e4, e5, e6⟩ := hJI i h' hj
    have hb1 : b1 ≠ b2 := hN.ne hb
    exact ⟨((hn.push hN.le).ext hc1).chg e3 (by simp), e3.of (hc1.of hb (by simp)) (by simpa using hb1)⟩
  · rintro i x h2 d hx ⟨a3, cap3, blk3, e1, e2, e3, e4, e5, e6⟩ hld hdf
    have hi := (List.getElem?_eq_some_iff.1 hx).1
    have hi' : i < nos.length := by simpa [elV] using hi
    have hx' : x = [Value.int .i64 nos[i]] := by
      have : (elV nos)[i]? = some [Value.int .i64 nos[i]] := by simp [elV, List.getElem?_eq_getElem hi']
      rw [this] at hx
      exact (Option.some.inj hx).symm
    have htk : nos.take (i + 1) = nos.take i ++ [nos[i]] := by rw [List.take_add_one, List.getElem?_eq_getElem hi']; rfl
    generalize nos[i] = no at hx' htk
    subst hx'
    have hb2 := (Array.getElem?_eq_some_iff.1 hN.here).1
    refine wp_done ⟨rfl, rfl, rfl, fun h3 d' hU => ?_⟩
    refine wp_load (ld_of (hU.of e1 (by omega)) rfl) ?_
    refine wp_new ?_
    intro b4 h4 hN4
    have ho4 := (e2.wr hU (fun g hg => (e6 g hg).2)).ext (hN4.chg [])
    refine wp_append layOk (t := 34) rfl rfl rfl (i := ti3) enI rfl rfl rfl ho4 (M := []) (l' := [no]) (.inr ⟨b4, 0, _, rfl, by simp, hN4.here, Nat.le_refl _, Nat.le_refl _, rfl⟩) (by rw [List.length_take]; simp; omega) (by simp) ?_
    intro h5 a5 cap5 blk5 ho5 hc5 hb5
    rw [← htk] at ho5 ⊢
    have hs3 : h3.size = h2.size := hU.size
    have hs4 : h4.size = h3.size + 1 := by rw [hN4.heap]; simp
    have hc13 : Chg [b2] h1 h3 := ⟨by rw [hs3]; exact e3.size, fun k hk hm => (hU.other k (by omega)).trans (e3.same k hk hm)⟩
    have hc14 : Chg [b2] h1 h4 := hc13.trans (hN4.chg _)
    have hb2n : ∀ g, blk3 = some g → g ≠ b2 := by
      intro g hg e
      rcases e2 with ⟨_, _, _, r⟩ | ⟨g', cs, _, r, r2, _⟩
      · rw [r] at hg; cases hg
      · rw [r] at hg
        cases hg
        rw [e, e1] at r2
        injection r2 with r2
        injection r2 with _ r3 _
        cases r3
    have h9 : h5[b2]? = some (.cells #[.slice a3 (nos.take i).length cap3] 34 (0, 0)) := hc5.of (hN4.of (hU.of e1 (by omega))) (fun hm => by
      have : blk3 = some b2 := by simpa using hm
      exact hb2n b2 this rfl)
    have hf4 : Fresh h1 blk3 := fun g hg => by
      have := e4 g hg
      have := (e6 g hg).1
      have h7 := hb2n g hg
      have h8 := hN.heap
      have h10 : h1.size = h.size + 1 := by rw [h8]; simp
      have := hN.eq
      omega
    have hblk : ∀ g, blk5 = some g → g ≠ h1.size ∧ g ≠ h1.size + 1 := by
      intro g hg
      rcases hb5 with rfl | ⟨g', rfl, hg'⟩
      · exact e6 g hg
      · cases hg
        omega
    have hdn : ∀ k, k = h1.size ∨ k = h1.size + 1 → k ∉ blk3.toList := fun k hk hm => by
      have : blk3 = some k := by simpa using hm
      have := e6 k this
      omega
    have hb2n5 : b2 ≠ h1.size ∧ b2 ≠ h1.size + 1 := by omega
    refine wp_store h9 (by rfl) ?_
    intro h6 hU6
    have hn6 : ∀ g, blk5 = some g → g ≠ b2 := by
      intro g hg
      rcases hb5 with rfl | ⟨g', rfl, hg'⟩
      · exact hb2n g hg
      · cases hg
        omega
    have hc15 : Chg [b2] h1 h5 := hc14.fresh hc5 fun k hk => .inr (hf4 k (by simpa using hk))
    have hst : ∀ k o, k = h1.size ∨ k = h1.size + 1 → h3[k]? = some o → h6[k]? = some o := fun k o hk hx => by
      refine hU6.of (hc5.of (hN4.of hx) (hdn k hk)) (by omega)
    refine wp_done ⟨rfl, ⟨a5, cap5, blk5, hU6.here, ho5.wr hU6 hn6, hc15.trans (hU6.chg (by simp)), ?_, ?_, hblk⟩, ?_, ?_⟩
    · intro g hg
      rcases hb5 with rfl | ⟨g', rfl, hg'⟩
      · exact e4 g hg
      · cases hg
        have := hc14.size
        have := hc1.size
        omega
    · rw [hU6.size]
      have := hc5.size
      omega
    · have : h3[h1.size + 1]? = some (.loop d') := hU.here
      rw [this]
      exact hst _ _ (.inr rfl) this
    · exact hst _ _ (.inl rfl) (hU.of hdf (by omega))
  · rintro h2 ⟨a3, cap3, blk3, e1, e2, e3, e4, e5, e6⟩ hdf
    have hlen : (elV nos).length = nos.length := by simp [elV]
    rw [hlen, List.take_length] at e1 e2
    have hb2 := (Array.getElem?_eq_some_iff.1 hN.here).1
    refine wp_load (ld_of e1 rfl) ?_
    refine wp_done (finM_mark h1.size rfl hdf fun h3 hU3 => ?_)
    refine ⟨[.slice a3 nos.length cap3], ⟨rfl, trivial⟩, a3, cap3, blk3, rfl, e2.wr hU3 (fun g hg => (e6 g hg).1), ?_, e4⟩
    have hc2 : Chg [] h h2 := hc1.fresh e3 (fun k hk => .inr (by rw [List.mem_singleton] at hk; rw [hk]; exact hle))
    exact hU3.chgGe hc2 hc1.size
end Go.Xe
namespace Go.Xe
def insI (x : Int) : List Int → List Int
  | [] => [x]
  | y :: l => if x ≤ y then x :: y :: l else y :: insI x l
def sortI : List Int → List Int
  | [] => []
  | x :: l => insI x (sortI l)
theorem insI_perm (x : Int) : ∀ l, (insI x l).Perm (x :: l)
  | [] => .refl _
  | y :: l => by
    simp only [insI]
    split
    · exact .refl _
    · exact ((insI_perm x l).cons y).trans (.swap ..)
theorem sortI_perm : ∀ l, (sortI l).Perm l
  | [] => .refl _
  | x :: l => (insI_perm x _).trans ((sortI_perm l).cons x)
theorem insI_sorted (x : Int) : ∀ l : List Int, l.Pairwise (· ≤ ·) → (insI x l).Pairwise (· ≤ ·)
  | [], _ => by simp [insI]
  | y :: l, h => by
    rw [List.pairwise_cons] at h
    simp only [insI]
    split
    · rename_i hxy
      refine List.pairwise_cons.2 ⟨fun z hz => ?_, List.pairwise_cons.2 h⟩
      rcases List.mem_cons.1 hz with rfl | hz
      · exact hxy
      · have := h.1 z hz; omega
    · rename_i hxy
      refine List.pairwise_cons.2 ⟨fun z hz => ?_, insI_sorted x l h.2⟩
      rcases List.mem_cons.1 ((insI_perm x l).mem_iff.1 hz) with rfl | hz
      · omega
      · exact h.1 z hz
theorem sortI_sorted : ∀ l, (sortI l).Pairwise (· ≤ ·)
  | [] => List.Pairwise.nil
  | x :: l => insI_sorted x _ (sortI_sorted l)
theorem sortI_merge (l : List Int) : (l.mergeSort fun x y => decide (x ≤ y)) = sortI l := by
  refine List.Perm.eq_of_pairwise (le := (· ≤ ·)) (fun a b _ _ h1 h2 => Int.le_antisymm h1 h2) ?_ (sortI_sorted l) ((List.mergeSort_perm l _).trans (sortI_perm l).symm)
  have := List.pairwise_mergeSort (le := fun x y : Int => decide (x ≤ y)) (fun a b c h1 h2 => by simp at *; omega) (fun a b => by simp; omega) l
  exact this.imp fun h => by simpa using h
theorem sortI_len (l : List Int) : (sortI l).length = l.length := (sortI_perm l).length_eq
end Go.Xe
namespace Go.Xe
open Go Go.Proofs
set_option maxRecDepth 20000
variable {c : World}
theorem enter_of {P : Program} {f : Nat} {fn : Func} (hf : P.funcs[f]? = some fn) (hb : fn.body.isSome = true) (hname : (fn.name == "runtime.NumGoroutine") = false) (xs : Array Value) (w : World) : (callFunc f xs).run P w = .ok (.enter f xs) w := by
  have hb' : fn.body.isNone = false := by cases hx : fn.body <;> simp_all
  simp only [callFunc, Sem.run_bind, run_program, Result.andThen_ok, hf, hname, hb', Bool.false_eq_true, if_false, Sem.run_pure]
theorem putCells_get (off : Nat) (d : Array Int) (cs : Array Value) (k : Nat) : (Sort.putCells (Value.int .i64) off d cs)[k]? = (cs[k]?).map fun x => if off ≤ k ∧ k < off + d.size then Value.int .i64 d[k - off]! else x := by
  simp only [Sort.putCells, Array.getElem?_mapIdx]
theorem flat_int (l : List Int) : l.flatMap elInt = l.map (Value.int .i64) := by
  induction l with
  | nil => rfl
  | cons x l ih => simp only [List.flatMap_cons, List.map_cons, ih]; rfl
theorem sort_c (l : List Int) (a : Option Addr) (cap : Nat) (blk : Option Nat) (h : Hp) (ho : IntsOwn h a cap l blk) (hz : l.length < 900000) :
    Call c Tryz.prog 87 #[.slice a l.length cap] h fun v h' => v = .tuple #[] ∧ IntsOwn h' a cap (sortI l) blk ∧ Chg blk.toList h h' := by
  refine ⟨enter_of Tryz.func87 rfl rfl, fun w hw hc => ?_⟩
  rcases ho with ⟨rfl, rfl, rfl, rfl⟩ | ⟨g, cs, rfl, rfl, h3, h4, h5, h6, h7⟩
  · refine (Any.slices_Sort_int_none Tryz.lays189 none 0 w).mono ?_
    rintro e w' ⟨rfl, rfl⟩
    exact ⟨hc, rfl, by rw [hw]; exact .inl ⟨rfl, rfl, by simp [sortI], rfl⟩, by rw [hw]; exact Chg.refl _ _⟩
  · subst hw
    have h7' : cs.toList.take l.length = l.map (Value.int .i64) := by rw [← flat_int]; simpa using h7
    have hcell : ∀ j (hj : j < l.length), cs[j]? = some (.int .i64 l[j]) := by
      intro j hj
      have := congrArg (fun z => z[j]?) h7'
      simp only [List.getElem?_take, if_pos hj, List.getElem?_map, List.getElem?_eq_getElem hj, Option.map_some, Array.getElem?_toList] at this
      exact this
    refine (Any.slices_Sort_int Tryz.lays189 g 0 cap l w ?_ (Array.getElem?_eq_some_iff.1 h3).1 (by omega)).mono ?_
    · intro j hj
      have hj' : j < l.length := by simpa using hj
      refine ⟨?_, ?_⟩
      · simp only [World.cell?, h3, Nat.zero_add, hcell j hj']
        rw [getElem!_pos _ j hj]
        simp
      · simp [World.frozen?, h3]
    · rintro e w' ⟨rfl, n, os, rfl⟩
      rw [sortI_merge]
      have hg := (Array.getElem?_eq_some_iff.1 h3).1
      have hsz : l.length * 1 ≤ cs.size := by rw [h6]; exact Nat.mul_le_mul_right _ h4
      have hnew : (Sort.grow (Sort.putRow (Value.int .i64) (Sort.ahead w n) g 0 (sortI l).toArray) os).heap[g]? = some (.cells (Sort.putCells (Value.int .i64) 0 (sortI l).toArray cs) 3 (0, 0)) := by
        rw [Sort.heap_grow_old _ _ (by simpa [Sort.ahead] using hg)]
        simp only [Sort.putRow, Sort.mapBlock, Sort.ahead, Array.getElem?_modify, h3, if_true, Option.map_some, Sort.onCells]
      refine ⟨⟨hc.os, hc.tape, hc.output⟩, rfl, ?_, ?_⟩
      · refine .inr ⟨g, _, rfl, rfl, hnew, by rw [sortI_len]; exact h4, h5, by simp [Sort.putCells, h6], ?_⟩
        rw [flat_int]
        apply List.ext_getElem?
        intro k
        have hl := sortI_len l
        simp only [List.getElem?_take, Array.getElem?_toList, putCells_get, List.getElem?_map, Nat.mul_one, hl]
        by_cases hk : k < l.length
        · have hks : k < (sortI l).length := by omega
          rw [if_pos hk, hcell k hk, List.getElem?_eq_getElem hks]
          simp only [Option.map_some]
          rw [if_pos ⟨Nat.zero_le _, by simpa using hks⟩, getElem!_pos _ _ (by simpa using hks)]
          simp
        · rw [if_neg hk, List.getElem?_eq_none (by omega)]
          rfl
      · refine ⟨by simp [Sort.ahead], fun k hk hm => ?_⟩
        have hkg : g ≠ k := fun e => hm (by simp [e])
        rw [Sort.heap_grow_old _ _ (by simpa [Sort.ahead] using hk)]
        simp only [Sort.putRow, Sort.mapBlock, Sort.ahead, Array.getElem?_modify]
        rw [if_neg hkg]
theorem values_c (nos : List Int) (a : Option Addr) (cap : Nat) (h : Hp) : Call c Tryz.prog 167 #[.slice a nos.length cap] h fun v h' => ∃ b, v = .func (.func 214) #[] #[.pointer (some ⟨b, 0, none⟩)] ∧ New h h' b (.cells #[.slice a nos.length cap] 34) := by
  refine call_of layOk 4 Tryz.func167 Tryz.ntmps167 rfl rfl rfl rfl ?_
  refine wp_new ?_
  intro b h1 hN
  exact wp_done ⟨rfl, b, rfl, hN⟩
theorem sorted_c (M : List Nat) (nos : List Int) (a : Option Addr) (cap b1 : Nat) (hz : nos.length < 900000) (h : Hp) (hn : IntsAt M h a cap nos) (hb : h[b1]? = some (.cells #[.slice a nos.length cap] 34 (0, 0))) :
    Call c Tryz.prog 166 #[.func (.func 214) #[] #[.pointer (some ⟨b1, 0, none⟩)]] h fun v h' => ∃ a' cap' blk', v = .slice a' nos.length cap' ∧ IntsOwn h' a' cap' (sortI nos) blk' ∧ Chg [] h h' ∧ Fresh h blk' := by
  have hcol : Call c Tryz.prog 213 #[.func (.func 214) #[] #[.pointer (some ⟨b1, 0, none⟩)]] h fun v h' => ∃ a' cap' blk', v = .slice a' nos.length cap' ∧ IntsOwn h' a' cap' nos blk' ∧ Chg [] h h' ∧ Fresh h blk' := by
    refine call_of layOk 5 Tryz.func213 Tryz.ntmps213 rfl rfl rfl rfl ?_
    refine wp_call (appendSeq_c M nos a cap b1 hz h hn hb) ?_
    rintro _ h1 ⟨a1, cap1, blk1, rfl, h1, h2, h3⟩
    exact wp_done ⟨rfl, a1, cap1, blk1, rfl, h1, h2, h3⟩
  refine call_of layOk 9 Tryz.func166 Tryz.ntmps166 rfl rfl rfl rfl ?_
  refine wp_call hcol ?_
  rintro _ h1 ⟨a1, cap1, blk1, rfl, ho1, hc1, hf1⟩
  refine wp_call (sort_c nos a1 cap1 blk1 h1 ho1 hz) ?_
  rintro _ h2 ⟨rfl, ho2, hc2⟩
  exact wp_done ⟨rfl, a1, cap1, blk1, rfl, ho2, hc1.freshO hc2 hf1, hf1⟩
end Go.Xe
namespace Go.Xe
open Go Go.Proofs
abbrev Res := Int × Int × StateR
def findF (bs : List (Int × BaleR)) (no : Int) (states : List Int) : Int × BaleR :=
  match getL eqI no bs with
  | none => (7, zBaleR)
  | some r => bif states.contains r.state then (0, r) else (10, zBaleR)
/-- the largest number of parts that a division is walked for -/
abbrev LP : Nat := 20
/-- what a division of a bale asks for -/
structure BaleW (r : BaleR) : Prop where
  few : r.parts.length < LP
  parts : ∀ p, p ∈ r.parts → 0 ≤ p.grams ∧ p.grams ≤ 1073741824
  sum : 0 < sumI (r.parts.map (·.grams))
  grams : 0 ≤ r.grams ∧ r.grams ≤ 1073741824
  from_ : r.from_.length < 900000
structure SizeW (σ : StateR) : Prop where
  clips : σ.clips.length < 800000
  names : σ.names.length < 800000
  bales : σ.bales.length < 800000
  lots : σ.lots.length < 800000
  totals : σ.totals.length < 800000
def FindW (σ : StateR) (no : Int) : Prop := ∀ r, getL eqI no σ.bales = some r → BaleW r
/-- the bale of a number bears it -/
def KeyW (σ : StateR) (no : Int) : Prop := ∀ r, getL eqI no σ.bales = some r → r.no = no
def splitF (σ : StateR) (m : MoveR) : Res :=
  let f := findF σ.bales m.no [0]
  if f.1 ≠ 0 then (0, f.1, σ)
  else if m.grams < 1 then (0, 2, σ)
  else if m.grams ≥ f.2.grams then (0, 11, σ)
  else if 512 ≤ σ.bales.length then (0, 9, σ)
  else
    let taken := portionL m.grams f.2.parts
    let b : BaleR := { f.2 with parts := lessL f.2.parts taken, grams := f.2.grams - m.grams }
    let σ1 := keepS σ b
    (σ1.bales.length + 1, 0, madeS σ1 ⟨0, f.2.kind, m.grams, solidL taken, 0, ⟨#[]⟩, [f.2.no]⟩)
/-- the totals are told part by part -/
def tellAll (F : Int → TotR → TotR) : List PartR → StateR → StateR
  | [], σ => σ
  | p :: l, σ => tellAll F l (tellS σ p.clip (F p.grams))
def coreT (g : Int) (t : TotR) : TotR := { t with cored := W (t.cored + g), live := W (t.live - g) }
def weighT (g : Int) (t : TotR) : TotR := { t with air := W (t.air + g), live := W (t.live + g) }
def wasteT (g : Int) (t : TotR) : TotR := { t with wasted := W (t.wasted + g), live := W (t.live - g) }
def sendT (g : Int) (t : TotR) : TotR := { t with sent := W (t.sent + g), live := W (t.live - g) }
def coreF (σ : StateR) (m : MoveR) : Res :=
  let f := findF σ.bales m.no [0, 1]
  if f.1 ≠ 0 then (0, f.1, σ)
  else if m.grams < 1 then (0, 2, σ)
  else if m.grams ≥ f.2.grams then (0, 11, σ)
  else
    let taken := portionL m.grams f.2.parts
    (0, 0, keepS (tellAll coreT taken σ) { f.2 with parts := lessL f.2.parts taken, grams := f.2.grams - m.grams })
def weighF (σ : StateR) (m : MoveR) : Res :=
  let f := findF σ.bales m.no [0, 1]
  if f.1 ≠ 0 then (0, f.1, σ)
  else if m.grams < 1 then (0, 2, σ)
  else if m.grams > 1073741824 then (0, 2, σ)
  else
    let now := portionL m.grams f.2.parts
    (0, 0, keepS (tellAll weighT (subG now f.2.parts) σ) { f.2 with parts := solidL now, grams := m.grams })
def turnF (σ : StateR) (no a b : Int) : Res :=
  let f := findF σ.bales no [a]
  if f.1 ≠ 0 then (0, f.1, σ) else (0, 0, keepS σ { f.2 with state := b })
def wasteF (σ : StateR) (m : MoveR) : Res :=
  let t := turnF σ m.no 0 3
  if t.2.1 ≠ 0 then (0, t.2.1, σ)
  else (0, 0, tellAll wasteT (((getL eqI m.no t.2.2.bales).map (·.parts)).getD []) t.2.2)
def sevGo (bs : List (Int × BaleR)) (all : List Int) : Nat → List Int → List BaleR → Int × List BaleR
  | _, [], out => bif out.all fun b => kindB b.kind ((out.head?.getD zBaleR).kind) then (0, out) else (12, [])
  | i, no :: rest, out =>
    let f := findF bs no [0]
    if f.1 = 7 then (7, [])
    else if (all.take i).contains no = true then (2, [])
    else if f.1 ≠ 0 then (f.1, [])
    else sevGo bs all (i + 1) rest (out ++ [f.2])
def severalF (bs : List (Int × BaleR)) (nos : List Int) : Int × List BaleR := sevGo bs nos 0 nos []
def addP (ps : List (Int × Int)) : List PartR → List (Int × Int)
  | [] => ps
  | p :: l => addP (insL ltI p.clip (W ((getL eqI p.clip ps).getD 0 + p.grams)) ps) l
def addB (ps : List (Int × Int)) : List BaleR → List (Int × Int)
  | [] => ps
  | b :: l => addB (addP ps b.parts) l
def sumB : Int → List BaleR → Int
  | g, [] => g
  | g, b :: l => sumB (W (g + b.grams)) l
def keepAll (F : BaleR → BaleR) : List BaleR → StateR → StateR
  | [], σ => σ
  | b :: l, σ => keepAll F l (keepS σ (F b))
def mergeF (σ : StateR) (m : MoveR) : Res :=
  if m.nos.length > 16 then (0, 3, σ)
  else if m.nos.length < 2 then (0, 2, σ)
  else
    let f := severalF σ.bales m.nos
    if f.1 ≠ 0 then (0, f.1, σ)
    else if sumB 0 f.2 > 1073741824 then (0, 4, σ)
    else if 512 ≤ σ.bales.length then (0, 9, σ)
    else
      let σ1 := keepAll (fun b => { b with state := 3 }) f.2 σ
      (σ1.bales.length + 1, 0, madeS σ1 ⟨0, (f.2.head?.getD zBaleR).kind, sumB 0 f.2, (addB [] f.2).map fun x => ⟨x.1, x.2⟩, 0, ⟨#[]⟩, sortI m.nos⟩)
def lotF (σ : StateR) (m : MoveR) : Res :=
  if nameB m.name = false then (0, 2, σ)
  else if (getL eqS m.name σ.lots).isSome = true then (0, 8, σ)
  else if m.nos.length > 16 then (0, 3, σ)
  else if m.nos.length = 0 then (0, 2, σ)
  else
    let f := severalF σ.bales m.nos
    if f.1 ≠ 0 then (0, f.1, σ)
    else if 64 ≤ σ.lots.length then (0, 9, σ)
    else
      let σ1 := keepAll (fun b => { b with state := 1, lot := m.name }) f.2 σ
      (0, 0, { σ1 with lots := insL ltS m.name ⟨m.name, sortI m.nos, false⟩ σ1.lots })
def openedF (ls : List (ByteArray × LotR)) (name : ByteArray) : Int × LotR :=
  match getL eqS name ls with
  | none => (7, ⟨⟨#[]⟩, [], false⟩)
  | some l => bif l.sent then (10, ⟨⟨#[]⟩, [], false⟩) else (0, l)
def freeAll : List Int → StateR → StateR
  | [], σ => σ
  | no :: l, σ => freeAll l (keepS σ { (findF σ.bales no [1]).2 with state := 0, lot := ⟨#[]⟩ })
def unlotF (σ : StateR) (m : MoveR) : Res :=
  let f := openedF σ.lots m.name
  if f.1 ≠ 0 then (0, f.1, σ)
  else
    let σ1 := freeAll f.2.bales σ
    (0, 0, { σ1 with lots := delL eqS m.name σ1.lots })
def sendAll : List Int → StateR → StateR
  | [], σ => σ
  | no :: l, σ =>
    let b := (findF σ.bales no [1]).2
    sendAll l (tellAll sendT b.parts (keepS σ { b with state := 3 }))
def sendF (σ : StateR) (m : MoveR) : Res :=
  let f := openedF σ.lots m.name
  if f.1 ≠ 0 then (0, f.1, σ)
  else
    let σ1 := sendAll f.2.bales σ
    (0, 0, { σ1 with lots := insL ltS m.name ⟨f.2.name, f.2.bales, true⟩ σ1.lots })
def stepF (σ : StateR) (m : MoveR) : Res :=
  if m.what = 1 then clipF σ m else if m.what = 2 then recvF σ m else if m.what = 3 then splitF σ m else if m.what = 4 then mergeF σ m
  else if m.what = 5 then coreF σ m else if m.what = 6 then weighF σ m else if m.what = 7 then turnF σ m.no 0 2 else if m.what = 8 then turnF σ m.no 2 0
  else if m.what = 9 then wasteF σ m else if m.what = 10 then lotF σ m else if m.what = 11 then unlotF σ m else if m.what = 12 then sendF σ m
  else (0, 2, σ)

theorem find2_c {c : World} (M Ms : List Nat) (sb : Nat) (p : StP) (σ : StateR) (no : Int) (states : List Int) (a : Option Addr) (cap : Nat) (h : Hp) (hsb : StBlk h sb p) (hσ : StOk M h p σ) (hs : IntsAt Ms h a cap states) (hz : states.length < 900000) :
    Call c Tryz.prog 158 #[.pointer (some ⟨sb, 0, none⟩), .int .i64 no, .slice a states.length cap] h fun v h' => ∃ q, v = .tuple #[vBale (findF σ.bales no states).2 q, .int .i64 (findF σ.bales no states).1] ∧ BalOk M h' (findF σ.bales no states).2 q ∧ Chg [] h h' := by
  refine (find_c (c := c) M Ms sb p σ no states a cap h hsb hσ hs hz).mono ?_
  rintro v h' ⟨hf, hc⟩
  unfold FindR at hf
  unfold findF
  cases hg : getL eqI no σ.bales with
  | none => rw [hg] at hf; exact ⟨zBalP, hf, ⟨.nil, .nil⟩, hc⟩
  | some r =>
    rw [hg] at hf
    cases hb : states.contains r.state with
    | true => simp only [hb, cond_true] at hf ⊢; obtain ⟨q, hv, hq⟩ := hf; exact ⟨q, hv, hq, hc⟩
    | false => simp only [hb, cond_false] at hf ⊢; exact ⟨zBalP, hf, ⟨.nil, .nil⟩, hc⟩
theorem findF_ok {bs : List (Int × BaleR)} {no : Int} {states : List Int} (h : (findF bs no states).1 = 0) : getL eqI no bs = some (findF bs no states).2 ∧ states.contains (findF bs no states).2.state = true := by
  unfold findF at *
  cases hg : getL eqI no bs with
  | none => rw [hg] at h; cases h
  | some r =>
    rw [hg] at h
    cases hb : states.contains r.state with
    | true => simp only [hb, cond_true]; exact ⟨trivial, trivial⟩
    | false => simp only [hb, cond_false] at h; cases h
end Go.Xe
namespace Go.Xe
open Go Go.Proofs
theorem sortR_len (l : List RestR) : (sortR l).length = l.length := (sortR_perm l).length_eq
theorem apportion_bd (t : Int) (l : List Int) (ht0 : 0 ≤ t) (ht : t ≤ 1073741824) (hw : ∀ w, w ∈ l → 0 ≤ w ∧ w ≤ 1073741824) (hsum : 0 < sumI l) (hl : l.length < 900000) : ∀ y, y ∈ apportion t l → 0 ≤ y ∧ y ≤ 2147483648 := by
  intro y hy
  unfold apportion at hy
  have h1 := foldl_bump_bd (((sortR (rests t (sumI l) 0 l)).take (t - sumI (l.map fun w => t * w / sumI l)).toNat)) 1073741824 (l.map fun w => t * w / sumI l) (by
    intro x hx
    obtain ⟨w, hwm, rfl⟩ := List.mem_map.1 hx
    refine ⟨Int.ediv_nonneg (Int.mul_nonneg ht0 (hw w hwm).1) (by omega), ?_⟩
    have hle := mem_le_sumI l w (fun x hx => (hw x hx).1) hwm
    have : t * w / sumI l ≤ t := Int.ediv_le_of_le_mul hsum (Int.mul_le_mul_of_nonneg_left hle ht0)
    omega) y hy
  have h2 : ((sortR (rests t (sumI l) 0 l)).take (t - sumI (l.map fun w => t * w / sumI l)).toNat).length ≤ l.length := by
    rw [List.length_take, sortR_len, rests_len]
    exact Nat.min_le_right _ _
  omega
theorem putG_mem : ∀ (l : List PartR) (gs : List Int) (p : PartR), p ∈ putG l gs → p.grams ∈ gs ∧ ∃ q, q ∈ l ∧ q.clip = p.clip
  | [], _, p, h => by simp [putG] at h
  | _ :: _, [], p, h => by simp [putG] at h
  | x :: l, g :: gs, p, h => by
    simp only [putG, List.mem_cons] at h
    rcases h with rfl | h
    · exact ⟨by simp, x, by simp, rfl⟩
    · obtain ⟨h1, q, h2, h3⟩ := putG_mem l gs p h
      exact ⟨List.mem_cons_of_mem _ h1, q, List.mem_cons_of_mem _ h2, h3⟩
theorem portion_bd (t : Int) (l : List PartR) (ht0 : 0 ≤ t) (ht : t ≤ 1073741824) (hw : ∀ p, p ∈ l → 0 ≤ p.grams ∧ p.grams ≤ 1073741824) (hsum : 0 < sumI (l.map (·.grams))) (hl : l.length < 900000) : ∀ p, p ∈ portionL t l → 0 ≤ p.grams ∧ p.grams ≤ 2147483648 := by
  intro p hp
  refine apportion_bd t (l.map (·.grams)) ht0 ht ?_ hsum (by rw [List.length_map]; exact hl) _ (putG_mem _ _ _ hp).1
  intro w hwm
  obtain ⟨q, hq, rfl⟩ := List.mem_map.1 hwm
  exact hw q hq
theorem portionL_len (t : Int) (l : List PartR) : (portionL t l).length = l.length := putG_len _ _ (by rw [apportion_len, List.length_map])
end Go.Xe
namespace Go.Xe
open Go Go.Proofs
set_option maxRecDepth 20000
variable {c : World}
theorem not_in1 {h : Hp} {sb : Nat} {o : Obj} (hsb : h[sb]? = some o) {b : Nat} (hb : h.size ≤ b) : b ∉ [sb] := by
  intro hm
  have h5 := List.mem_singleton.1 hm
  have h7 := (Array.getElem?_eq_some_iff.1 hsb).1
  omega
theorem Bd.cons {M : List Nat} {h : Hp} (x : Bd M h) {b : Nat} (hb : b < h.size) : Bd (b :: M) h := fun m hm => by
  rcases List.mem_cons.1 hm with rfl | hm
  · exact hb
  · exact x m hm
theorem solidL_mem {l : List PartR} {p : PartR} (h : p ∈ solidL l) : p ∈ l := (List.mem_filter.1 h).1
theorem split_c (M : List Nat) (sb : Nat) (p : StP) (σ : StateR) (m : MoveR) (a : Option Addr) (cap : Nat) (h : Hp) (hM : Bd M h) (hsM : sb ∈ M) (hsb : StBlk h sb p) (hσ : StOk M h p σ) (hz : SizeW σ) (hw : FindW σ m.no) :
    Call c Tryz.prog 114 #[.pointer (some ⟨sb, 0, none⟩), vMove m a cap] h (StepOk M sb h (splitF σ m)) := by
  refine call_of layOk 65 Tryz.func114 Tryz.ntmps114 rfl rfl rfl rfl ?_
  refine wp_new ?_
  intro mb h1 hN
  have hc1 := hN.chg []
  have hmbs : mb ∉ [sb] := not_in1 hsb hN.le
  have hs : ∀ k, k ∈ [sb] → k ∈ M := fun k hk => by rcases List.mem_singleton.1 hk with rfl; exact hsM
  refine wp_load (ld_of hN.here rfl) ?_
  refine wp_new ?_
  intro bi h2 hN2
  have hc2 := hc1.trans (hN2.chg [])
  have hfind := find2_c (c := c) M [] sb p σ m.no [0] (some ⟨bi, 0, none⟩) 1 h2 (hc2.of hsb (by simp)) (hσ.ext hc2) (.inr ⟨bi, 0, _, rfl, by simp, hN2.here, Nat.le_refl _, Nat.le_refl _, rfl⟩) (by decide)
  refine wp_call hfind ?_
  rintro _ h3 ⟨q, rfl, hq3, hc3⟩
  have hok := findF_ok (bs := σ.bales) (no := m.no) (states := [0])
  have hspl : splitF σ m = splitF σ m := rfl
  conv at hspl => rhs; unfold splitF
  revert hspl hok hq3
  generalize findF σ.bales m.no [0] = f
  obtain ⟨e, r⟩ := f
  dsimp only
  intro hq3 hok hspl
  have hmb3 := (hc3.of (hN2.of hN.here) (by simp))
  refine wp_new ?_
  intro b6 h4 hN4
  refine wp_store hN4.here (by rfl) ?_
  intro h5 hU5
  have hc35 : Chg [] h3 h5 := hU5.chgGe (hN4.chg []) hN4.le
  have hc05 := (hc2.trans hc3).trans hc35
  have hmb5 := hc35.of hmb3 (by simp)
  have err : ∀ e' h6, Chg [] h h6 → splitF σ m = (0, e', σ) → StepOk M sb h (splitF σ m) (.tuple #[.int .i64 0, .int .i64 e']) h6 := fun e' h6 hc he => by
    rw [he]
    exact ⟨rfl, p, hc.of hsb (by simp), hσ.ext hc, hc.mono (by simp)⟩
  refine wp_br (fun g1 => ?_) (fun g1 => ?_)
  · have d1 : (e != 0) = true := g1
    have d1' : e ≠ 0 := by simpa using d1
    rw [if_pos d1'] at hspl
    exact wp_done ⟨rfl, err e h5 hc05 hspl⟩
  · have d1 : (e != 0) = false := g1
    have d1' : e = 0 := by simpa using d1
    obtain ⟨hg, hst⟩ := hok d1'
    have hW := hw r hg
    have hfew : r.parts.length < 900000 := Nat.lt_trans hW.few (by decide)
    have hle6 : h.size ≤ b6 := Nat.le_trans (hc2.trans hc3).size hN4.le
    have hb6M : b6 ∉ M := fun hm => by have := hM b6 hm; omega
    have hq5 : BalOk (b6 :: M) h5 r q := (hq3.push hN4.le).ext hc35
    have hσ5 : StOk (b6 :: M) h5 p σ := ((hσ.ext (hc2.trans hc3)).push hN4.le).ext hc35
    rw [if_neg (by simpa using d1')] at hspl
    refine wp_load (ld_of hmb5 rfl) ?_
    refine wp_br (fun g2 => ?_) (fun g2 => ?_)
    · have d2 : m.grams < 1 := of_decide_eq_true g2
      rw [if_pos d2] at hspl
      exact wp_done ⟨rfl, err 2 h5 hc05 hspl⟩
    · have d2 : ¬ m.grams < 1 := of_decide_eq_false g2
      rw [if_neg d2] at hspl
      refine wp_load (ld_of hmb5 rfl) ?_
      refine wp_load (v := .int .i64 r.grams) (ld_of hU5.here rfl) ?_
      refine wp_br (fun g3 => ?_) (fun g3 => ?_)
      · have d3 : m.grams ≥ r.grams := of_decide_eq_true g3
        rw [if_pos d3] at hspl
        exact wp_done ⟨rfl, err 11 h5 hc05 hspl⟩
      · have d3 : ¬ m.grams ≥ r.grams := of_decide_eq_false g3
        rw [if_neg d3] at hspl
        refine wp_call (full_c M sb p σ h5 (hc05.of hsb (by simp)) (hσ.ext hc05)) ?_
        rintro _ h6 ⟨rfl, hc6⟩
        have hc06 := hc05.trans hc6
        refine wp_br (fun g4 => ?_) (fun g4 => ?_)
        · have d4 : 512 ≤ σ.bales.length := of_decide_eq_true g4
          rw [if_pos d4] at hspl
          exact wp_done ⟨rfl, err 9 h6 hc06 hspl⟩
        · have d4 : ¬ 512 ≤ σ.bales.length := of_decide_eq_false g4
          rw [if_neg d4] at hspl
          have hmb6 := hc6.of hmb5 (by simp)
          have hb6 := hc6.of hU5.here (by simp)
          have hgr := hW.grams
          have hpo := portion_c (c := c) (b6 :: M) m.grams r.parts q.pa q.pc h6 (hq5.1.ext hc6) hW.few (by omega) (by omega) hW.parts hW.sum
          have hpl := portionL_len m.grams r.parts
          have hpb := portion_bd m.grams r.parts (by omega) (by omega) hW.parts hW.sum hfew
          revert hspl hpo hpl hpb
          generalize portionL m.grams r.parts = tk
          intro hspl hpo hpl hpb
          refine wp_load (ld_of hmb6 rfl) ?_
          refine wp_load (v := .slice q.pa r.parts.length q.pc) (ld_of hb6 rfl) ?_
          refine wp_call hpo ?_
          rintro _ h7 ⟨a8, cap8, blk8, rfl, ho8, hc7, hf8⟩
          have hc07 := hc06.trans hc7
          have hlenpos : 0 < tk.length := by
            rw [hpl]
            cases hp : r.parts with
            | nil => have := hW.sum; rw [hp] at this; simp [sumI] at this
            | cons _ _ => simp
          obtain ⟨g8, rfl, rfl⟩ := ho8.ptr (i := ti129) hlenpos
          have hg8 := hf8 g8 rfl
          have hge : h.size ≤ g8 := Nat.le_trans hc06.size hg8
          have hg8M : g8 ∉ M := fun hm => by have := hM g8 hm; omega
          have hb6lt : b6 < h6.size := (Array.getElem?_eq_some_iff.1 hb6).1
          have hMb7 : Bd (g8 :: b6 :: M) h7 := Bd.cons (Bd.cons (hM.chg hc07) (Nat.lt_of_lt_of_le hb6lt hc7.size)) (ho8.lt g8 rfl)
          have hb7 := hc7.of hb6 (by simp)
          have hmb7 := hc7.of hmb6 (by simp)
          have hq7 : BalOk (g8 :: b6 :: M) h7 r q := ((hq5.ext hc6).push hg8).ext hc7
          have hσ7 : StOk (g8 :: b6 :: M) h7 p σ := ((hσ5.ext hc6).push hg8).ext hc7
          have hless := less_c (c := c) [] r.parts tk q.pa (some ⟨g8, 0, none⟩) q.pc cap8 h7 (hq7.1.sub (by simp)) (ho8.sl (by simp)) hpl hfew hW.parts hpb
          refine wp_load (v := .slice q.pa r.parts.length q.pc) (ld_of hb7 rfl) ?_
          refine wp_call hless ?_
          rintro _ h8 ⟨a9, cap9, blk9, rfl, ho9, hc8, hf9⟩
          have hb8 := hc8.of hb7 (by simp)
          refine wp_store hb8 (by rfl) ?_
          intro h9 hU9
          have hc08 := hc07.trans hc8
          have hc09 : Chg [] h h9 := hU9.chgGe hc08 hle6
          have hmbb : mb ≠ b6 := by
            have := (Array.getElem?_eq_some_iff.1 hmb3).1
            have := hN4.le
            omega
          have hmb9 := hU9.of (hc8.of hmb7 (by simp)) hmbb
          refine wp_load (v := .int .i64 r.grams) (ld_of hU9.here rfl) ?_
          refine wp_load (ld_of hmb9 rfl) ?_
          have hwr : IntKind.i64.wrap (r.grams - m.grams) = r.grams - m.grams := w64 (by omega) (by omega)
          refine wp_store hU9.here (by rfl) ?_
          intro h10 hU10
          have hc10 : Chg [] h h10 := hU10.chgGe hc09 hle6
          have hx10 : Chg [b6] h8 h10 := (hU9.chg (by simp)).trans (hU10.chg (by simp))
          have hmb10 := hU10.of hmb9 hmbb
          have hb68 : b6 ≠ g8 := by omega
          have hb6n9 : ∀ g, blk9 = some g → g ∉ [b6] := fun g hg hm => by have := hf9 g hg; have := hc7.size; rw [List.mem_singleton] at hm; omega
          have ho8' := (ho8.ext hc8).chg hx10 (fun g hg hm => by cases hg; rw [List.mem_singleton] at hm; exact hb68 hm.symm)
          have hx10' : ∀ k, k ∈ [b6] → k ∈ g8 :: b6 :: M := fun k hk => by rw [List.mem_singleton] at hk; subst hk; simp
          have hMb10 : Bd (g8 :: b6 :: M) h10 := (hMb7.chg hc8).chg hx10
          have hq10 : BalOk (g8 :: b6 :: M) h10 { r with parts := lessL r.parts tk, grams := r.grams - m.grams } { q with pa := a9, pc := cap9 } :=
            ⟨(ho9.chg hx10 hb6n9).sl (hf9.notin hMb7), (hq7.2.ext hc8).chg hx10 hx10'⟩
          have hσ10 : StOk (g8 :: b6 :: M) h10 p σ := (hσ7.ext hc8).chg hx10 hx10'
          refine wp_load (v := vBale { r with parts := lessL r.parts tk, grams := IntKind.i64.wrap (r.grams - m.grams) } { q with pa := a9, pc := cap9 }) (ld_of hU10.here rfl) ?_
          have hsM' : sb ∈ g8 :: b6 :: M := List.mem_cons_of_mem _ (List.mem_cons_of_mem _ hsM)
          have hkeep := keep_c (c := c) (g8 :: b6 :: M) sb p σ { r with parts := lessL r.parts tk, grams := r.grams - m.grams } { q with pa := a9, pc := cap9 } h10 hMb10 hsM' (hc10.of hsb (by simp)) hσ10 hq10 (by have := hz.bales; omega)
          rw [hwr]
          refine wp_call hkeep ?_
          rintro _ h11 ⟨p11, hs11, hσ11, hc11⟩
          have hg8s : g8 ∉ [sb] := not_in1 hsb hge
          have hmb11 := hc11.of hmb10 hmbs
          have hb11 := hc11.of hU10.here (not_in1 hsb hle6)
          have ho11 := ho8'.chg hc11 (fun g hg => by cases hg; exact hg8s)
          have hcc11 : Chg [sb] h h11 := (hc10.mono (by simp)).trans hc11
          have hM11 : Bd M h11 := hM.chg hcc11
          have hz11 : (keepS σ { r with parts := lessL r.parts tk, grams := r.grams - m.grams }).bales.length < 900000 := by
            have h1 := length_insL (lt := ltI) (k := r.no) (v := { r with parts := lessL r.parts tk, grams := r.grams - m.grams }) σ.bales
            have h2 := hz.bales
            unfold keepS
            dsimp only
            omega
          have hgM : ∀ k, k ∈ [g8] → k ∈ g8 :: b6 :: M := fun k hk => by rw [List.mem_singleton] at hk; subst hk; simp
          have hs12 : ∀ h12, Chg [g8] h11 h12 → StBlk h12 sb p11 := fun h12 hc => hc.of hs11 (fun hm => hg8s (by rw [List.mem_singleton] at hm ⊢; exact hm.symm))
          have hfin : ∀ h12 bF, Chg [g8] h11 h12 → PartsOwn h12 (some ⟨g8, 0, none⟩) cap8 (solidL tk) (some g8) → IntsAt M h12 (some ⟨bF, 0, none⟩) 1 [r.no] →
              Call c Tryz.prog 157 #[.pointer (some ⟨sb, 0, none⟩), vBale ⟨0, r.kind, m.grams, solidL tk, 0, ⟨#[]⟩, [r.no]⟩ ⟨some ⟨g8, 0, none⟩, cap8, some ⟨bF, 0, none⟩, 1⟩] h12 fun v h' => ∃ i, v = .int .i64 i ∧ StepOk M sb h (splitF σ m) (.tuple #[.int .i64 i, .int .i64 0]) h' := by
            intro h12 bF hc12 hoS hF
            have hσ12 : StOk M h12 p11 (keepS σ { r with parts := lessL r.parts tk, grams := r.grams - m.grams }) := (hσ11.chg hc12 hgM).sub (fun k hk => List.mem_cons_of_mem _ (List.mem_cons_of_mem _ hk))
            refine (made_c (c := c) M sb p11 (keepS σ { r with parts := lessL r.parts tk, grams := r.grams - m.grams }) ⟨0, r.kind, m.grams, solidL tk, 0, ⟨#[]⟩, [r.no]⟩ ⟨some ⟨g8, 0, none⟩, cap8, some ⟨bF, 0, none⟩, 1⟩ h12 (hM11.chg hc12) hsM (hs12 h12 hc12) hσ12 ⟨hoS.sl (fun g hg => by cases hg; exact hg8M), hF⟩ hz11).mono ?_
            rintro v h13 ⟨rfl, p13, hs13, hσ13, hc13⟩
            refine ⟨_, rfl, ?_⟩
            rw [hspl]
            exact ⟨rfl, p13, hs13, hσ13, (hcc11.fresh hc12 (fun k hk => .inr (by rcases List.mem_singleton.1 hk with rfl; exact hge))).trans hc13⟩
          have hbD : b6 ∉ [g8] := fun hm => hb68 (List.mem_singleton.1 hm)
          have hmD : mb ∉ [g8] := fun hm => by
            have h1 := List.mem_singleton.1 hm
            have h2 := (Array.getElem?_eq_some_iff.1 hmb6).1
            omega
          have hsol := solid_c (c := c) tk (some ⟨g8, 0, none⟩) cap8 (some g8)
          refine wp_drawG layOk mixed [g8] (fun o => freesO (rs [(0, 5), (7, 8)]) (.alt 6 (seqO o (rs [(9, 13)])) (.alt 9 (seqO o (rs [(6, 6), (10, 13)])) (.non)))) [6, 9] (by kernel_rfl) [4, 5] [] rfl
            (fun vals h' => ∃ i, vals = [.int .i64 i, .int .i64 0] ∧ StepOk M sb h (splitF σ m) (.tuple #[.int .i64 i, .int .i64 0]) h') ?_ ?_
          · refine wp_chk hbD ?_
            refine wp_load (v := .agg #[.int .u8 r.kind.k0, .int .u8 r.kind.k1, .int .u8 r.kind.k2, .int .u8 r.kind.k3]) (ld_of hb11 rfl) ?_
            refine wp_chk hmD ?_
            refine wp_load (ld_of hmb11 rfl) ?_
            refine wp_chk hbD ?_
            refine wp_load (v := .int .i64 r.no) (ld_of hb11 rfl) ?_
            refine wp_both ?_ ?_
            · refine wp_callE (hsol h11 ho11 (by rw [hpl]; exact hfew)) ?_
              rintro _ h12 ⟨rfl, ho12, hc12⟩
              refine ⟨hc12, ?_⟩
              refine wp_new ?_
              intro bF h13 hN13
              refine wp_call (hfin h13 bF (hc12.trans (hN13.chg _)) (ho12.ext (hN13.chg [])) (.inr ⟨bF, 0, _, rfl, (hM11.chg hc12).fresh hN13, hN13.here, Nat.le_refl _, Nat.le_refl _, rfl⟩)) ?_
              rintro _ h14 ⟨i, rfl, hst⟩
              exact wp_done ⟨i, rfl, hst⟩
            · refine wp_new ?_
              intro bF h13 hN13
              refine wp_callE (hsol h13 (ho11.ext (hN13.chg [])) (by rw [hpl]; exact hfew)) ?_
              rintro _ h12 ⟨rfl, ho12, hc12⟩
              refine ⟨hc12, ?_⟩
              have hbFg : bF ∉ [g8] := fun hm => by
                have h1 := List.mem_singleton.1 hm
                have h2 := hN13.le
                have h3 := ho11.lt g8 rfl
                omega
              refine wp_call (hfin h12 bF ((hN13.chg _).trans hc12) ho12 (.inr ⟨bF, 0, _, rfl, hM11.fresh hN13, hc12.of hN13.here hbFg, Nat.le_refl _, Nat.le_refl _, rfl⟩)) ?_
              rintro _ h14 ⟨i, rfl, hst⟩
              exact wp_done ⟨i, rfl, hst⟩
          · rintro ρ0 _ h14 ⟨i, rfl, hst⟩
            exact wp_done ⟨rfl, hst⟩
end Go.Xe
namespace Go.Xe
open Go Go.Proofs
set_option maxRecDepth 20000
variable {c : World}
structure SC (M : List Nat) (sb : Nat) (h : Hp) (p : StP) (σ : StateR) : Prop where
  bd : Bd M h
  mem : sb ∈ M
  blk : StBlk h sb p
  ok : StOk M h p σ
section
variable {M M' : List Nat} {sb : Nat} {h h' : Hp} {p : StP} {σ : StateR}
theorem SC.ext (x : Chg [] h h') (y : SC M sb h p σ) : SC M sb h' p σ := ⟨y.bd.chg x, y.mem, x.of y.blk (by simp), y.ok.ext x⟩
theorem SC.chg (x : Chg M' h h') (hm : ∀ m, m ∈ M' → m ∈ M) (hs : sb ∉ M') (y : SC M sb h p σ) : SC M sb h' p σ := ⟨y.bd.chg x, y.mem, x.of y.blk hs, y.ok.chg x hm⟩
theorem SC.new {b : Nat} {o : Obj} (x : New h h' b o) (y : SC M sb h p σ) : SC (b :: M) sb h' p σ :=
  ⟨Bd.cons (y.bd.chg (x.chg [])) (by rw [x.size]; exact Nat.lt_succ_self _), List.mem_cons_of_mem _ y.mem, x.of y.blk, (y.ok.push x.le).ext (x.chg [])⟩
theorem SC.push {b : Nat} (hb : h.size ≤ b) (x : Chg [] h h') (hl : b < h'.size) (y : SC M sb h p σ) : SC (b :: M) sb h' p σ :=
  ⟨Bd.cons (y.bd.chg x) hl, List.mem_cons_of_mem _ y.mem, x.of y.blk (by simp), (y.ok.push hb).ext x⟩
theorem SC.sub (hm : ∀ m, m ∈ M' → m ∈ M) (hs : sb ∈ M') (y : SC M sb h p σ) : SC M' sb h p σ := ⟨fun k hk => y.bd k (hm k hk), hs, y.blk, y.ok.sub hm⟩
theorem SC.upd {b : Nat} {o : Obj} (x : Upd h h' b o) (hb : b ∈ M) (hs : sb ≠ b) (y : SC M sb h p σ) : SC M sb h' p σ :=
  y.chg (x.chg (M := [b]) (by simp)) (fun m hm => by rcases List.mem_singleton.1 hm with rfl; exact hb) (fun hm => hs (List.mem_singleton.1 hm))
theorem SC.ne (y : SC M sb h p σ) {b : Nat} (hb : h.size ≤ b) : sb ≠ b := by
  have := (Array.getElem?_eq_some_iff.1 y.blk).1
  omega
theorem SC.nin (y : SC M sb h p σ) {b : Nat} (hb : h.size ≤ b) : b ∉ [sb] := fun hm => y.ne hb (List.mem_singleton.1 hm).symm
theorem SC.nin' (y : SC M sb h p σ) {b : Nat} (hb : h.size ≤ b) : sb ∉ [b] := fun hm => y.ne hb (List.mem_singleton.1 hm)
theorem SC.notM (y : SC M sb h p σ) {b : Nat} (hb : h.size ≤ b) : b ∉ M := fun hm => by have := y.bd b hm; omega
theorem SC.step (y : SC M sb h' p σ) {h0 : Hp} (hc : Chg [sb] h0 h') {r : Int × Int × StateR} {e n : Int} (hr : r = (n, e, σ)) : StepOk M sb h0 r (.tuple #[.int .i64 n, .int .i64 e]) h' := by
  rw [hr]
  exact ⟨rfl, p, y.blk, y.ok, hc⟩

theorem keep_x (r : BaleR) (q : BalP) (y : SC M sb h p σ) (hq : BalOk M h r q) (hz : σ.bales.length < 900000) :
    Call c Tryz.prog 161 #[.pointer (some ⟨sb, 0, none⟩), vBale r q] h fun _ h' => ∃ p', SC M sb h' p' (keepS σ r) ∧ Chg [sb] h h' := by
  refine (keep_c (c := c) M sb p σ r q h y.bd y.mem y.blk y.ok hq hz).mono ?_
  rintro _ h' ⟨p', h1, h2, h3⟩
  exact ⟨p', ⟨y.bd.chg h3, y.mem, h1, h2⟩, h3⟩
theorem made_x (r : BaleR) (q : BalP) (y : SC M sb h p σ) (hq : BalOk M h r q) (hz : σ.bales.length < 900000) :
    Call c Tryz.prog 157 #[.pointer (some ⟨sb, 0, none⟩), vBale r q] h fun v h' => v = .int .i64 (σ.bales.length + 1) ∧ ∃ p', SC M sb h' p' (madeS σ r) ∧ Chg [sb] h h' := by
  refine (made_c (c := c) M sb p σ r q h y.bd y.mem y.blk y.ok hq hz).mono ?_
  rintro _ h' ⟨rfl, p', h1, h2, h3⟩
  exact ⟨rfl, p', ⟨y.bd.chg h3, y.mem, h1, h2⟩, h3⟩
theorem full_x (y : SC M sb h p σ) : Call c Tryz.prog 154 #[.pointer (some ⟨sb, 0, none⟩)] h fun v h' => v = .bool (decide (512 ≤ σ.bales.length)) ∧ Chg [] h h' := full_c M sb p σ h y.blk y.ok
theorem find_x (Ms : List Nat) (no : Int) (states : List Int) (a : Option Addr) (cap : Nat) (y : SC M sb h p σ) (hs : IntsAt Ms h a cap states) (hz : states.length < 900000) :
    Call c Tryz.prog 158 #[.pointer (some ⟨sb, 0, none⟩), .int .i64 no, .slice a states.length cap] h fun v h' => ∃ q, v = .tuple #[vBale (findF σ.bales no states).2 q, .int .i64 (findF σ.bales no states).1] ∧ BalOk M h' (findF σ.bales no states).2 q ∧ Chg [] h h' :=
  find2_c M Ms sb p σ no states a cap h y.blk y.ok hs hz
theorem tell_x (clip : Int) (f : Nat) (cv : List Value) (F : TotR → TotR) (y : SC M sb h p σ) (hz : σ.totals.length < 900000)
    (hf : ∀ tb h1 t, Chg [] h h1 → h.size ≤ tb → h1[tb]? = some (.cells (elTot t).toArray 119 (0, 0)) → Call c Tryz.prog f (Value.pointer (some ⟨tb, 0, none⟩) :: cv).toArray h1 fun _ h2 => h2[tb]? = some (.cells (elTot (F t)).toArray 119 (0, 0)) ∧ Chg [tb] h1 h2) :
    Call c Tryz.prog 155 #[.pointer (some ⟨sb, 0, none⟩), .int .i64 clip, .func (.func f) #[] cv.toArray] h fun _ h' => ∃ p', SC M sb h' p' (tellS σ clip F) ∧ Chg [sb] h h' := by
  refine (tell_c (c := c) M sb p σ clip f cv F h y.bd y.mem y.blk y.ok hz hf).mono ?_
  rintro _ h' ⟨p', h1, h2, h3⟩
  exact ⟨p', ⟨y.bd.chg h3, y.mem, h1, h2⟩, h3⟩
end
theorem tellAll_snoc (F : Int → TotR → TotR) : ∀ (l : List PartR) (p : PartR) (σ : StateR), tellAll F (l ++ [p]) σ = tellS (tellAll F l σ) p.clip (F p.grams)
  | [], _, _ => rfl
  | x :: l, p, σ => by simp only [List.cons_append, tellAll]; exact tellAll_snoc F l p _
theorem tellAll_take (F : Int → TotR → TotR) (l : List PartR) (j : Nat) (hj : j < l.length) (σ : StateR) : tellAll F (l.take (j + 1)) σ = tellS (tellAll F (l.take j) σ) l[j].clip (F l[j].grams) := by
  rw [List.take_add_one, List.getElem?_eq_getElem hj]
  exact tellAll_snoc F _ _ _
theorem tellAll_len (F : Int → TotR → TotR) : ∀ (l : List PartR) (σ : StateR), (tellAll F l σ).totals.length ≤ σ.totals.length + l.length
  | [], σ => Nat.le_refl _
  | p :: l, σ => by
    have h1 := tellAll_len F l (tellS σ p.clip (F p.grams))
    have h2 := length_insL (lt := ltI) (k := p.clip) (v := F p.grams (totOf σ.totals p.clip)) σ.totals
    simp only [tellAll, List.length_cons]
    unfold tellS at h1
    dsimp only at h1
    unfold tellS
    omega
theorem tellAll_bales (F : Int → TotR → TotR) : ∀ (l : List PartR) (σ : StateR), (tellAll F l σ).bales = σ.bales
  | [], σ => rfl
  | p :: l, σ => by simp only [tellAll]; rw [tellAll_bales F l]; rfl
theorem ne_of_ty {h : Hp} {a b : Nat} {ca cb : Array Value} {ta tb : Nat} {fa fb : Nat × Nat} (ha : h[a]? = some (.cells ca ta fa)) (hb : h[b]? = some (.cells cb tb fb)) (ht : ta ≠ tb) : a ≠ b := by
  intro e
  subst e
  rw [ha] at hb
  injection hb with hb
  injection hb with _ h2 _
  exact ht h2

theorem coreT_c (g : PartR) (gb tb : Nat) (t : TotR) (h : Hp) (hgb : h[gb]? = some (.cells (elPart g).toArray 129 (0, 0))) (htb : h[tb]? = some (.cells (elTot t).toArray 119 (0, 0))) :
    Call c Tryz.prog 169 (Value.pointer (some ⟨tb, 0, none⟩) :: [Value.pointer (some ⟨gb, 0, none⟩)]).toArray h fun _ h' => h'[tb]? = some (.cells (elTot (coreT g.grams t)).toArray 119 (0, 0)) ∧ Chg [tb] h h' := by
  refine call_of layOk 21 Tryz.func169 Tryz.ntmps169 rfl rfl rfl rfl ?_
  refine wp_ord layOk mixed [(0, 9)] [] (by kernel_rfl) ?_
  refine wp_load (ld_of htb rfl) ?_
  refine wp_load (ld_of hgb rfl) ?_
  refine wp_store htb (by rfl) ?_
  intro h1 hU1
  refine wp_ord layOk mixed [(0, 9)] [] (by kernel_rfl) ?_
  refine wp_load (ld_of hU1.here rfl) ?_
  refine wp_load (ld_of (hU1.of hgb (ne_of_ty hgb htb (by decide))) rfl) ?_
  refine wp_store hU1.here (by rfl) ?_
  intro h2 hU2
  exact wp_done ⟨rfl, hU2.here, (hU1.chg (by simp)).trans (hU2.chg (by simp))⟩
theorem wasteT_c (g : PartR) (gb tb : Nat) (t : TotR) (h : Hp) (hgb : h[gb]? = some (.cells (elPart g).toArray 129 (0, 0))) (htb : h[tb]? = some (.cells (elTot t).toArray 119 (0, 0))) :
    Call c Tryz.prog 172 (Value.pointer (some ⟨tb, 0, none⟩) :: [Value.pointer (some ⟨gb, 0, none⟩)]).toArray h fun _ h' => h'[tb]? = some (.cells (elTot (wasteT g.grams t)).toArray 119 (0, 0)) ∧ Chg [tb] h h' := by
  refine call_of layOk 21 Tryz.func172 Tryz.ntmps172 rfl rfl rfl rfl ?_
  refine wp_ord layOk mixed [(0, 9)] [] (by kernel_rfl) ?_
  refine wp_load (ld_of htb rfl) ?_
  refine wp_load (ld_of hgb rfl) ?_
  refine wp_store htb (by rfl) ?_
  intro h1 hU1
  refine wp_ord layOk mixed [(0, 9)] [] (by kernel_rfl) ?_
  refine wp_load (ld_of hU1.here rfl) ?_
  refine wp_load (ld_of (hU1.of hgb (ne_of_ty hgb htb (by decide))) rfl) ?_
  refine wp_store hU1.here (by rfl) ?_
  intro h2 hU2
  exact wp_done ⟨rfl, hU2.here, (hU1.chg (by simp)).trans (hU2.chg (by simp))⟩
theorem sendT_c (g : PartR) (gb tb : Nat) (t : TotR) (h : Hp) (hgb : h[gb]? = some (.cells (elPart g).toArray 129 (0, 0))) (htb : h[tb]? = some (.cells (elTot t).toArray 119 (0, 0))) :
    Call c Tryz.prog 177 (Value.pointer (some ⟨tb, 0, none⟩) :: [Value.pointer (some ⟨gb, 0, none⟩)]).toArray h fun _ h' => h'[tb]? = some (.cells (elTot (sendT g.grams t)).toArray 119 (0, 0)) ∧ Chg [tb] h h' := by
  refine call_of layOk 21 Tryz.func177 Tryz.ntmps177 rfl rfl rfl rfl ?_
  refine wp_ord layOk mixed [(0, 9)] [] (by kernel_rfl) ?_
  refine wp_load (ld_of htb rfl) ?_
  refine wp_load (ld_of hgb rfl) ?_
  refine wp_store htb (by rfl) ?_
  intro h1 hU1
  refine wp_ord layOk mixed [(0, 9)] [] (by kernel_rfl) ?_
  refine wp_load (ld_of hU1.here rfl) ?_
  refine wp_load (ld_of (hU1.of hgb (ne_of_ty hgb htb (by decide))) rfl) ?_
  refine wp_store hU1.here (by rfl) ?_
  intro h2 hU2
  exact wp_done ⟨rfl, hU2.here, (hU1.chg (by simp)).trans (hU2.chg (by simp))⟩
theorem weighT_c (g : Int) (gb tb : Nat) (t : TotR) (h : Hp) (hgb : h[gb]? = some (.cells #[.int .i64 g] 3 (0, 0))) (htb : h[tb]? = some (.cells (elTot t).toArray 119 (0, 0))) :
    Call c Tryz.prog 170 (Value.pointer (some ⟨tb, 0, none⟩) :: [Value.pointer (some ⟨gb, 0, none⟩)]).toArray h fun _ h' => h'[tb]? = some (.cells (elTot (weighT g t)).toArray 119 (0, 0)) ∧ Chg [tb] h h' := by
  refine call_of layOk 19 Tryz.func170 Tryz.ntmps170 rfl rfl rfl rfl ?_
  refine wp_ord layOk mixed [(0, 8)] [] (by kernel_rfl) ?_
  refine wp_load (ld_of htb rfl) ?_
  refine wp_load (ld_of hgb rfl) ?_
  refine wp_store htb (by rfl) ?_
  intro h1 hU1
  refine wp_ord layOk mixed [(0, 8)] [] (by kernel_rfl) ?_
  refine wp_load (ld_of hU1.here rfl) ?_
  refine wp_load (ld_of (hU1.of hgb (ne_of_ty hgb htb (by decide))) rfl) ?_
  refine wp_store hU1.here (by rfl) ?_
  intro h2 hU2
  exact wp_done ⟨rfl, hU2.here, (hU1.chg (by simp)).trans (hU2.chg (by simp))⟩

theorem turn_x (M : List Nat) (sb : Nat) (p : StP) (σ : StateR) (no x z : Int) (h : Hp) (y : SC M sb h p σ) (hz : SizeW σ) :
    Call c Tryz.prog 171 #[.pointer (some ⟨sb, 0, none⟩), .int .i64 no, .int .i64 x, .int .i64 z] h fun v h' => v = .tuple #[.int .i64 (turnF σ no x z).1, .int .i64 (turnF σ no x z).2.1] ∧ ∃ p', SC M sb h' p' (turnF σ no x z).2.2 ∧ Chg [sb] h h' := by
  refine call_of layOk 28 Tryz.func171 Tryz.ntmps171 rfl rfl rfl rfl ?_
  refine wp_new ?_
  intro bi h2 hN2
  have hfind := find_x (c := c) [] no [x] (some ⟨bi, 0, none⟩) 1 (y.ext (hN2.chg [])) (.inr ⟨bi, 0, _, rfl, by simp, hN2.here, Nat.le_refl _, Nat.le_refl _, rfl⟩) (by simp)
  refine wp_call hfind ?_
  rintro _ h3 ⟨q, rfl, hq3, hc3⟩
  have hok := findF_ok (bs := σ.bales) (no := no) (states := [x])
  have hc03 : Chg [] h h3 := (hN2.chg []).trans hc3
  have hsp : turnF σ no x z = if (findF σ.bales no [x]).1 ≠ 0 then (0, (findF σ.bales no [x]).1, σ) else (0, 0, keepS σ { (findF σ.bales no [x]).2 with state := z }) := rfl
  revert hsp hok hq3
  generalize findF σ.bales no [x] = f
  obtain ⟨e, r⟩ := f
  dsimp only
  intro hq3 hok hsp
  refine wp_new ?_
  intro b6 h4 hN4
  refine wp_store hN4.here (by rfl) ?_
  intro h5 hU5
  have y3 := y.ext hc03
  have y5 := (y3.new hN4).upd hU5 (by simp) (y3.ne hN4.le)
  have hc5 := hU5.chgGe (hN4.chg []) hN4.le
  refine wp_br (fun g1 => ?_) (fun g1 => ?_)
  · have d1 : (e != 0) = true := g1
    have d1' : e ≠ 0 := by simpa using d1
    rw [if_pos d1'] at hsp
    refine wp_done ⟨rfl, ?_⟩
    show Value.tuple #[.int .i64 0, .int .i64 e] = _ ∧ _
    rw [hsp]
    exact ⟨rfl, p, y.ext (hc03.trans hc5), (hc03.trans hc5).mono (by simp)⟩
  · have d1 : (e != 0) = false := g1
    have d1' : e = 0 := by simpa using d1
    rw [if_neg (by simpa using d1')] at hsp
    have hq5 : BalOk (b6 :: M) h5 r q := (hq3.push hN4.le).ext hc5
    refine wp_store hU5.here (by rfl) ?_
    intro h6 hU6
    have y6 := y5.upd hU6 (by simp) (y3.ne hN4.le)
    have hq6 : BalOk (b6 :: M) h6 r q := hq5.chg (hU6.chg (M := [b6]) (by simp)) (fun k hk => by rw [List.mem_singleton] at hk; simp [hk])
    refine wp_load (v := vBale { r with state := z } q) (ld_of hU6.here rfl) ?_
    have hc6 : Chg [] h h6 := hU6.chgGe (hc03.trans hc5) (Nat.le_trans hc03.size hN4.le)
    refine wp_call (keep_x { r with state := z } q y6 ⟨hq6.1, hq6.2⟩ (by have := hz.bales; omega)) ?_
    rintro _ h7 ⟨p', y7, hc7⟩
    refine wp_done ⟨rfl, ?_⟩
    show Value.tuple #[.int .i64 0, .int .i64 0] = _ ∧ _
    rw [hsp]
    exact ⟨rfl, p', y7.sub (fun k hk => List.mem_cons_of_mem _ hk) y.mem, (hc6.mono (by simp)).trans hc7⟩
theorem hold_x (M : List Nat) (sb : Nat) (p : StP) (σ : StateR) (m : MoveR) (a : Option Addr) (cap : Nat) (h : Hp) (y : SC M sb h p σ) (hz : SizeW σ) :
    Call c Tryz.prog 118 #[.pointer (some ⟨sb, 0, none⟩), vMove m a cap] h (StepOk M sb h (turnF σ m.no 0 2)) := by
  refine call_of layOk 12 Tryz.func118 Tryz.ntmps118 rfl rfl rfl rfl ?_
  refine wp_new ?_
  intro mb h1 hN
  refine wp_load (ld_of hN.here rfl) ?_
  refine wp_call (turn_x M sb p σ m.no 0 2 h1 (y.ext (hN.chg [])) hz) ?_
  rintro _ h2 ⟨rfl, p', y2, hc2⟩
  exact wp_done ⟨rfl, y2.step ((hN.chg _).trans hc2) rfl⟩
theorem release_x (M : List Nat) (sb : Nat) (p : StP) (σ : StateR) (m : MoveR) (a : Option Addr) (cap : Nat) (h : Hp) (y : SC M sb h p σ) (hz : SizeW σ) :
    Call c Tryz.prog 119 #[.pointer (some ⟨sb, 0, none⟩), vMove m a cap] h (StepOk M sb h (turnF σ m.no 2 0)) := by
  refine call_of layOk 12 Tryz.func119 Tryz.ntmps119 rfl rfl rfl rfl ?_
  refine wp_new ?_
  intro mb h1 hN
  refine wp_load (ld_of hN.here rfl) ?_
  refine wp_call (turn_x M sb p σ m.no 2 0 h1 (y.ext (hN.chg [])) hz) ?_
  rintro _ h2 ⟨rfl, p', y2, hc2⟩
  exact wp_done ⟨rfl, y2.step ((hN.chg _).trans hc2) rfl⟩
end Go.Xe
namespace Go.Xe
open Go
section
variable {K V : Type} {lt eq : K → K → Bool}
theorem get_ins_same (hlo : LO lt eq) (k : K) (v : V) : ∀ xs : List (K × V), getL eq k (insL lt k v xs) = some v
  | [] => by simp [insL, getL, (hlo.eq k k).2 rfl]
  | (a, b) :: xs => by
    simp only [insL]
    split
    · simp [getL, (hlo.eq k k).2 rfl]
    · split
      · rename_i h2
        simp only [getL, (hlo.ne h2).1, Bool.false_eq_true, if_false]
        exact get_ins_same hlo k v xs
      · simp [getL, (hlo.eq k k).2 rfl]
theorem get_ins_other (hlo : LO lt eq) {k k' : K} (v : V) (hk : k' ≠ k) : ∀ xs : List (K × V), getL eq k' (insL lt k v xs) = getL eq k' xs
  | [] => by
    have : eq k k' = false := by
      cases hx : eq k k' with
      | false => rfl
      | true => exact absurd ((hlo.eq _ _).1 hx).symm hk
    simp [insL, getL, this]
  | (a, b) :: xs => by
    have hkk : eq k k' = false := by
      cases hx : eq k k' with
      | false => rfl
      | true => exact absurd ((hlo.eq _ _).1 hx).symm hk
    simp only [insL]
    split
    · simp only [getL, hkk, Bool.false_eq_true, if_false]
    · split
      · simp only [getL]
        rw [get_ins_other hlo v hk xs]
      · rename_i h1 h2
        have : k = a := hlo.tri k a (by simpa using h1) (by simpa using h2)
        subst this
        simp only [getL, hkk, Bool.false_eq_true, if_false]
theorem getL_mem {k : K} {v : V} (hlo : LO lt eq) : ∀ {xs : List (K × V)}, getL eq k xs = some v → (k, v) ∈ xs
  | [], h => by simp [getL] at h
  | (a, b) :: xs, h => by
    simp only [getL] at h
    split at h
    · rename_i he
      have := (hlo.eq _ _).1 he
      subst this
      cases h
      exact List.mem_cons_self ..
    · exact List.mem_cons_of_mem _ (getL_mem hlo h)
theorem mem_getL (hlo : LO lt eq) {k : K} {v : V} : ∀ {xs : List (K × V)}, SortedK lt xs → (k, v) ∈ xs → getL eq k xs = some v
  | [], _, h => by cases h
  | (a, b) :: xs, hs, h => by
    simp only [getL]
    rcases List.mem_cons.1 h with h | h
    · cases h
      rw [if_pos ((hlo.eq _ _).2 rfl)]
    · have := (List.pairwise_cons.1 hs).1 _ h
      rw [(hlo.ne this).1]
      exact mem_getL hlo (List.pairwise_cons.1 hs).2 h
end
end Go.Xe
