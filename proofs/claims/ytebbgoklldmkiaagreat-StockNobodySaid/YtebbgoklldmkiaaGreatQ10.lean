/- Lemmas on the way: Do. Views: At, state, missing, own, Bale. Views: Lot, Totals; a missing bale. A range over a function that collects. A range over a map at CI. A range over a map at BI. A range over a map at SL. Views: Clips, Bales, Lots. -/
import Derived.Test.YtebbgoklldmkiaaGreatQ9
import Derived.Test.YtebbgoklldmkiaaGreatQ5
import Derived.Test.YtebbgoklldmkiaaGreatQ6
namespace Go.Xe
open Go Go.Proofs
set_option maxRecDepth 20000
variable {c : World}
/-- the function of a move -/
def chF (what : Int) : Option Nat :=
  if what = 1 then some 112 else if what = 2 then some 113 else if what = 3 then some 114 else if what = 4 then some 115 else if what = 5 then some 116 else if what = 6 then some 117
  else if what = 7 then some 118 else if what = 8 then some 119 else if what = 9 then some 120 else if what = 10 then some 121 else if what = 11 then some 122 else if what = 12 then some 123 else none
theorem chF_get (w : Int) : getA w chL = (chF w).map fnV := by
  simp only [chL, getA, chF, apply_ite (Option.map fnV), Option.map_some, Option.map_none]
def nowS (S : StoreR) : StateR := S.states.getD S.now ⟨[], [], [], [], []⟩
def doF (S : StoreR) (m : MoveR) : Int × Int × StoreR :=
  let r := stepF (nowS S) m
  if r.2.1 ≠ 0 then (0, r.2.1, S)
  else if 2048 ≤ S.now then (0, 9, S)
  else (r.1, 0, ⟨S.states.take (S.now + 1) ++ [r.2.2], S.moves.take S.now ++ [plainF m], S.now + 1⟩)
theorem stepF_none {σ : StateR} {m : MoveR} (h : chF m.what = none) : stepF σ m = (0, 2, σ) := by
  unfold chF at h
  by_cases h1 : m.what = 1
  · rw [if_pos h1] at h; cases h
  rw [if_neg h1] at h
  by_cases h2 : m.what = 2
  · rw [if_pos h2] at h; cases h
  rw [if_neg h2] at h
  by_cases h3 : m.what = 3
  · rw [if_pos h3] at h; cases h
  rw [if_neg h3] at h
  by_cases h4 : m.what = 4
  · rw [if_pos h4] at h; cases h
  rw [if_neg h4] at h
  by_cases h5 : m.what = 5
  · rw [if_pos h5] at h; cases h
  rw [if_neg h5] at h
  by_cases h6 : m.what = 6
  · rw [if_pos h6] at h; cases h
  rw [if_neg h6] at h
  by_cases h7 : m.what = 7
  · rw [if_pos h7] at h; cases h
  rw [if_neg h7] at h
  by_cases h8 : m.what = 8
  · rw [if_pos h8] at h; cases h
  rw [if_neg h8] at h
  by_cases h9 : m.what = 9
  · rw [if_pos h9] at h; cases h
  rw [if_neg h9] at h
  by_cases h10 : m.what = 10
  · rw [if_pos h10] at h; cases h
  rw [if_neg h10] at h
  by_cases h11 : m.what = 11
  · rw [if_pos h11] at h; cases h
  rw [if_neg h11] at h
  by_cases h12 : m.what = 12
  · rw [if_pos h12] at h; cases h
  rw [if_neg h12] at h
  unfold stepF
  rw [if_neg h1, if_neg h2, if_neg h3, if_neg h4, if_neg h5, if_neg h6, if_neg h7, if_neg h8, if_neg h9, if_neg h10, if_neg h11, if_neg h12]
theorem nowS_get {S : StoreR} (h : S.now < S.states.length) : S.states[S.now]? = some (nowS S) := by
  unfold nowS
  rw [List.getD_eq_getElem?_getD, List.getElem?_eq_getElem h]
  rfl
/-- what a change does to a store in memory -/
def DoOk (x : StoP) (M : List Nat) (h : Hp) (st : Nat) (r : Int × Int × StoreR) (v : Value) (h' : Hp) : Prop :=
  v = .tuple #[.int .i64 r.1, .int .i64 r.2.1] ∧ ∃ x' N, StoreAt x' (N ++ M) h' st r.2.2 ∧ Bd (N ++ M) h' ∧ Chg (x.foot st) h h' ∧ (∀ k, k ∈ x'.foot st → k ∈ x.foot st ∨ h.size ≤ k) ∧ ∀ k, k ∈ N → h.size ≤ k
theorem StoreAt.same {x : StoP} {M : List Nat} {h h' : Hp} {st : Nat} {S : StoreR} {n e : Int} {r : Int × Int × StoreR} (y : StoreAt x M h st S) (hM : Bd M h) (hc : Chg [] h h') (hr : r = (n, e, S)) : DoOk x M h st r (.tuple #[.int .i64 n, .int .i64 e]) h' := by
  rw [hr]
  exact ⟨rfl, x, [], y.ext hc, hM.chg hc, hc.mono (by simp), fun k hk => .inl hk, fun k hk => by cases hk⟩
theorem StOk.pushL {M : List Nat} {h : Hp} {p : StP} {σ : StateR} (y : StOk M h p σ) : ∀ N : List Nat, (∀ k, k ∈ N → h.size ≤ k) → StOk (N ++ M) h p σ
  | [], _ => y
  | b :: N, hN => (StOk.pushL y N fun k hk => hN k (List.mem_cons_of_mem _ hk)).push (hN b (List.mem_cons_self ..))
theorem SlAt.pushL {α : Type} {e sz : Nat} {enc : α → List Value} {M : List Nat} {h : Hp} {a : Option Addr} {cap : Nat} {l : List α} (y : SlAt e sz enc M h a cap l) : ∀ N : List Nat, (∀ k, k ∈ N → h.size ≤ k) → SlAt e sz enc (N ++ M) h a cap l
  | [], _ => y
  | b :: N, hN => (SlAt.pushL y N fun k hk => hN k (List.mem_cons_of_mem _ hk)).push (hN b (List.mem_cons_self ..))
theorem plainF_nos {m : MoveR} (hz : m.nos.length < 1000) : (plainF m).nos.length < 1000 := by
  have h0 : ([] : List Int).length < 1000 := by decide
  unfold plainF
  by_cases h1 : m.what = 1
  · rw [if_pos h1]; exact h0
  rw [if_neg h1]
  by_cases h2 : m.what = 2
  · rw [if_pos h2]; exact h0
  rw [if_neg h2]
  by_cases h3 : m.what = 3 ∨ m.what = 5 ∨ m.what = 6
  · rw [if_pos h3]; exact h0
  rw [if_neg h3]
  by_cases h4 : m.what = 4
  · rw [if_pos h4]; exact hz
  rw [if_neg h4]
  by_cases h5 : m.what = 10
  · rw [if_pos h5]; exact hz
  rw [if_neg h5]
  by_cases h6 : m.what = 11 ∨ m.what = 12
  · rw [if_pos h6]; exact h0
  rw [if_neg h6]; exact h0
theorem grown_new {h : Hp} {blk blk2 : Option Nat} (hb : blk2 = blk ∨ ∃ g, blk2 = some g ∧ h.size ≤ g) : ∃ N : List Nat, (∀ k, k ∈ N → h.size ≤ k ∧ blk2 = some k) ∧ ∀ k, k ∈ blk2.toList → k ∈ blk.toList ∨ k ∈ N := by
  rcases hb with rfl | ⟨g, rfl, hg⟩
  · exact ⟨[], fun k hk => (by cases hk), fun k hk => .inl hk⟩
  · exact ⟨[g], fun k hk => by rw [List.mem_singleton] at hk; rw [hk]; exact ⟨hg, rfl⟩, fun k hk => .inr (by simpa using hk)⟩
theorem do_c (x : StoP) (M Mn : List Nat) (st : Nat) (S : StoreR) (m : MoveR) (a : Option Addr) (cap : Nat) (h : Hp) (hM : Bd M h) (y : StoreAt x M h st S) (hn : IntsAt Mn h a cap m.nos) (hz : m.nos.length < 1000)
    (hstep : ∀ f, chF m.what = some f → ∀ (M : List Nat) (sb : Nat) (h : Hp) (p : StP), SC M sb h p (nowS S) → IntsAt [] h a cap m.nos → Call c Tryz.prog f #[.pointer (some ⟨sb, 0, none⟩), vMove m a cap] h (StepOk M sb h (stepF (nowS S) m))) :
    Call c Tryz.prog 39 #[.pointer (some ⟨st, 0, none⟩), vMove m a cap] h (DoOk x M h st (doF S m)) := by
  have hdo : doF S m = if (stepF (nowS S) m).2.1 ≠ 0 then (0, (stepF (nowS S) m).2.1, S) else if 2048 ≤ S.now then (0, 9, S) else ((stepF (nowS S) m).1, 0, ⟨S.states.take (S.now + 1) ++ [(stepF (nowS S) m).2.2], S.moves.take S.now ++ [plainF m], S.now + 1⟩) := rfl
  refine call_of layOk 89 Tryz.func39 Tryz.ntmps39 rfl rfl rfl rfl ?_
  refine wp_new ?_
  intro mb h1 hN
  have hc1 := hN.chg []
  refine wp_call (made_t (y.ext hc1)) ?_
  rintro _ h1 ⟨rfl, rfl⟩
  refine wp_brF rfl ?_
  refine wp_ord layOk mixed [(1, 2), (0, 0), (3, 8)] [0] (by kernel_rfl) ?_
  refine wp_load (v := .int .i64 m.what) (ld_of hN.here rfl) ?_
  refine wp_callE (changes_c h1) ?_
  rintro _ h2 ⟨bm, rfl, hm2, hc2⟩
  refine ⟨hc2, ?_⟩
  have hc02 := hc1.trans hc2
  cases hch : chF m.what with
  | none =>
    rw [stepF_none hch] at hdo
    refine wp_lookupN .nilFunc Tryz.underlying154 Tryz.underlying3 Tryz.zeroValue152 hm2 (by rw [chF_get, hch]; rfl) ?_
    refine wp_brT rfl ?_
    exact wp_done ⟨rfl, y.same hM hc02 hdo⟩
  | some f =>
    refine wp_lookupS (fnV f) Tryz.underlying154 Tryz.underlying3 Tryz.zeroValue152 hm2 (by rw [chF_get, hch]; rfl) ?_
    refine wp_brF rfl ?_
    have hnow := y.now
    have hgs := nowS_get hnow
    have hpl := y.stsOk.1
    have hnp : S.now < x.ps.length := by omega
    have hpe := List.getElem?_eq_getElem hnp
    generalize x.ps[S.now] = p at hpe
    have hσ0 := y.stsOk.2 _ _ _ hpe hgs
    have hstp := hstep f hch
    generalize stepF (nowS S) m = r at hdo hstp
    obtain ⟨n, e, σ'⟩ := r
    dsimp only at hdo
    have y2 := y.ext hc02
    obtain ⟨bs, hqs, hqb⟩ := y2.sts.ptr (i := ti112) hnp
    have hmb2 := hc2.of hN.here (by simp)
    have hblk2 : h2[st]? = some (.cells #[.slice (some ⟨bs, 0, none⟩) x.ps.length x.cS, .slice x.aM x.qs.length x.cM, .int .i64 S.now] 95 (0, 0)) := by rw [← hqs]; exact y2.blk
    have hso2 : StsOwn h2 (some ⟨bs, 0, none⟩) x.cS x.ps x.bS := by rw [← hqs]; exact y2.sts
    refine wp_ord layOk mixed [(0, 11)] [10] (by kernel_rfl) ?_
    refine wp_load (ld_of hblk2 rfl) ?_
    refine wp_load (ld_of hblk2 rfl) ?_
    refine wp_chk ⟨by omega, by omega⟩ ?_
    refine wp_load (hso2.ld1 (i := ti112) enSt hpe) ?_
    refine wp_new ?_
    intro b8 h3 hN3
    refine wp_store hN3.here (by rfl) ?_
    intro h4 hU4
    have hc24 : Chg [] h2 h4 := hU4.chgGe (hN3.chg []) hN3.le
    have hc04 := hc02.trans hc24
    have hle8 : h.size ≤ b8 := Nat.le_trans hc02.size hN3.le
    have hlt8 : b8 < h4.size := (Array.getElem?_eq_some_iff.1 hU4.here).1
    have y4 : SC (b8 :: M) b8 h4 p (nowS S) := ⟨Bd.cons (hM.chg hc04) hlt8, List.mem_cons_self .., hU4.here, (hσ0.push hle8).ext hc04⟩
    have hmb4 := hc24.of hmb2 (by simp)
    refine wp_load (v := vMove m a cap) (ld_of hmb4 rfl) ?_
    refine wp_call (hstp (b8 :: M) b8 h4 p y4 ((hn.ext hc04).sub (by simp))) ?_
    rintro _ h7 ⟨rfl, p', hb7, hσ7, hc7⟩
    dsimp only at hσ7
    have hc07 : Chg [] h h7 := hc04.fresh hc7 (fun k hk => .inr (by rw [List.mem_singleton] at hk; rw [hk]; exact hle8))
    have y7 := y.ext hc07
    refine wp_br (fun g1 => ?_) (fun g1 => ?_)
    · have d1 : (e != 0) = true := g1
      rw [if_pos (by simpa using d1)] at hdo
      exact wp_done ⟨rfl, y.same hM hc07 hdo⟩
    · have d1 : (e != 0) = false := g1
      have d1' : e = 0 := by simpa using d1
      rw [if_neg (by simpa using d1)] at hdo
      refine wp_load (ld_of y7.blk rfl) ?_
      refine wp_br (fun g2 => ?_) (fun g2 => ?_)
      · have d2 : (S.now : Int) ≥ 2048 := of_decide_eq_true g2
        rw [if_pos (by omega)] at hdo
        exact wp_done ⟨rfl, y.same hM hc07 hdo⟩
      · have d2 : ¬ (S.now : Int) ≥ 2048 := of_decide_eq_false g2
        rw [if_neg (by omega)] at hdo
        have hw1 : IntKind.i64.wrap ((S.now : Int) + 1) = S.now + 1 := w64 (by omega) (by omega)
        have hcap := y7.sts.len_cap
        have hfew := y.few
        have hlS : (x.ps.take (S.now + 1)).length + [p'].length < 1000000 := by rw [List.length_take, List.length_singleton]; omega
        have htl : (IntKind.i64.wrap ((S.now : Int) + 1)).toNat = (x.ps.take (S.now + 1)).length := by rw [hw1, List.length_take]; omega
        have hchk : 0 ≤ IntKind.i64.wrap ((S.now : Int) + 1) ∧ IntKind.i64.wrap ((S.now : Int) + 1) ≤ (x.cS : Int) := by rw [hw1]; omega
        have hst := (Array.getElem?_eq_some_iff.1 y.blk).1
        have hmb7 := (hc7.of hmb4 (fun hm => by
          have h1 := (Array.getElem?_eq_some_iff.1 hmb2).1
          have h2 := hN3.le
          have h3 := List.mem_singleton.1 hm
          omega))
        refine wp_ord layOk mixed [(0, 16)] [12] (by kernel_rfl) ?_
        refine wp_load (ld_of y7.blk rfl) ?_
        refine wp_load (ld_of y7.blk rfl) ?_
        refine wp_chk hchk ?_
        refine wp_load (v := vSt p') (ld_of hb7 rfl) ?_
        refine wp_new ?_
        intro b10 h10 hN10
        have ho10 := (OwnAt.take (sz := 5) (enc := elSt) (fun _ => rfl) y7.sts (S.now + 1)).ext (hN10.chg [])
        refine wp_append layOk (t := 93) rfl rfl rfl (i := ti112) enSt rfl ?_ rfl ho10 (M := []) (l' := [p']) (.inr ⟨b10, 0, _, rfl, by simp, hN10.here, Nat.le_refl _, Nat.le_refl _, rfl⟩) hlS (fun e => by cases e) ?_
        · exact congrArg (fun z => [Value.slice x.aS z x.cS, .slice (some ⟨b10, 0, none⟩) 1 1]) htl
        intro h11 aS' cS' bS' ho11 hc11 hbS'
        have hSst : ∀ g, x.bS = some g → g ≠ st := fun g hg e => by
          rcases y.sts with ⟨_, _, _, r⟩ | ⟨g', cs, _, r, r2, _⟩
          · rw [r] at hg; cases hg
          · rw [r] at hg
            cases hg
            exact ne_of_ty r2 y.blk (by decide) e
        have hMst : ∀ g, x.bM = some g → g ≠ st := fun g hg e => by
          rcases y.mvs with ⟨_, _, _, r⟩ | ⟨g', cs, _, r, r2, _⟩
          · rw [r] at hg; cases hg
          · rw [r] at hg
            cases hg
            exact ne_of_ty r2 y.blk (by decide) e
        have hSM : ∀ g, x.bS = some g → ∀ g', x.bM = some g' → g ≠ g' := fun g hg g' hg' e => by
          rcases y.sts with ⟨_, _, _, r⟩ | ⟨g1, cs, _, r, r2, _⟩
          · rw [r] at hg; cases hg
          · rcases y.mvs with ⟨_, _, _, q⟩ | ⟨g2, cs2, _, q, q2, _⟩
            · rw [q] at hg'; cases hg'
            · rw [r] at hg
              rw [q] at hg'
              cases hg
              cases hg'
              exact ne_of_ty r2 q2 (by decide) e
        have hb11 : h11[st]? = some (.cells (elSto x S.now).toArray 95 (0, 0)) := hc11.of (hN10.of y7.blk) (fun hm => hSst st (by simpa using hm) rfl)
        have hmb11 := hc11.of (hN10.of hmb7) (fun hm => by
          have h1 : x.bS = some mb := by simpa using hm
          have h2 := y.sts.lt mb h1
          have h3 := hN.le
          omega)
        have hm11 := (y7.mvs.ext (hN10.chg [])).chg hc11 (fun g hg hm => hSM g (by simpa using hm) g hg rfl)
        have hsz7 := hc07.size
        have hsz10 := hN10.size
        have hle10 := hN10.le
        have hsz11 := hc11.size
        have hS'st : ∀ g, bS' = some g → g ≠ st := fun g hg => by
          rcases hbS' with rfl | ⟨g', rfl, hg'⟩
          · exact hSst g hg
          · cases hg
            omega
        refine wp_store hb11 (by rfl) ?_
        intro h12 hU12
        have ho12 := ho11.wr hU12 hS'st
        have hm12 := hm11.wr hU12 hMst
        have hmb12 := hU12.of hmb11 (fun e => by have := hN.le; omega)
        have hsz12 := hU12.size
        refine wp_ord layOk mixed [(0, 16)] [11, 12] (by kernel_rfl) ?_
        refine wp_load (v := .slice x.aM x.qs.length x.cM) (ld_of hU12.here rfl) ?_
        refine wp_load (v := .int .i64 S.now) (ld_of hU12.here rfl) ?_
        have hcapM := y7.mvs.len_cap
        have hql : x.qs.length = S.moves.length := by rw [← y.mvsOk.1, List.length_map]
        have hlen := y.len
        refine wp_chk ⟨by omega, by omega⟩ ?_
        refine wp_load (v := vMove m a cap) (ld_of hmb12 rfl) ?_
        have hn12 : IntsAt [] h12 a cap m.nos := by
          have h1 : IntsAt [] h10 a cap m.nos := (((hn.ext hc07).ext (hN10.chg []))).sub (by simp)
          exact (h1.apart hc11 ho10 (by decide)).offTy (hU12.chg (M := [st]) (by simp)) hb11 (by decide)
        refine wp_callE (plain_c [] m a cap h12 hn12 (by omega)) ?_
        rintro _ h13 ⟨a13, cap13, blk13, rfl, ho13, hc13, hf13⟩
        refine ⟨hc13, ?_⟩
        refine wp_new ?_
        intro b14 h14 hN14
        have hc1214 : Chg [] h12 h14 := hc13.trans (hN14.chg [])
        have hm14 := (OwnAt.take (sz := 10) (enc := encMv) (fun _ => rfl) hm12 S.now).ext hc1214
        have hlM : (x.qs.take S.now).length + [(plainF m, a13, cap13)].length < 1000000 := by rw [List.length_take, List.length_singleton]; omega
        have htm : ((S.now : Int)).toNat = (x.qs.take S.now).length := by rw [List.length_take]; omega
        refine wp_append layOk (t := 46) rfl rfl rfl (i := ti54) enMv rfl ?_ rfl hm14 (M := []) (l' := [(plainF m, a13, cap13)]) (.inr ⟨b14, 0, _, rfl, by simp, hN14.here, Nat.le_refl _, Nat.le_refl _, rfl⟩) hlM (fun e => by cases e) ?_
        · exact congrArg (fun z => [Value.slice x.aM z x.cM, .slice (some ⟨b14, 0, none⟩) 1 1]) htm
        intro h15 aM' cM' bM' ho15 hc15 hbM'
        have hsz14 := hc1214.size
        have hsz15 := hc15.size
        have hM'st : ∀ g, bM' = some g → g ≠ st := fun g hg => by
          rcases hbM' with rfl | ⟨g', rfl, hg'⟩
          · exact hMst g hg
          · cases hg
            omega
        have hS'M : ∀ g, bS' = some g → g ∉ x.bM.toList := fun g hg hm => by
          have hm : x.bM = some g := by simpa using hm
          rcases hbS' with rfl | ⟨g', rfl, hg'⟩
          · exact hSM g hg g hm rfl
          · cases hg
            have := y.mvs.lt _ hm
            omega
        have hb15 := hc15.of (hc1214.of hU12.here (by simp)) (fun hm => hMst st (by simpa using hm) rfl)
        have ho15s := (ho12.ext hc1214).chg hc15 hS'M
        refine wp_store hb15 (by rfl) ?_
        intro h16 hU16
        refine wp_load (v := .int .i64 S.now) (ld_of hU16.here rfl) ?_
        refine wp_store hU16.here (by rfl) ?_
        intro h17 hU17
        have hblk17 : h17[st]? = some (.cells (elSto ⟨x.ps.take (S.now + 1) ++ [p'], x.qs.take S.now ++ [(plainF m, a13, cap13)], aS', cS', bS', aM', cM', bM'⟩ (S.now + 1)).toArray 95 (0, 0)) := by
          rw [hU17.here]
          unfold elSto
          exact congrArg (fun z => some (Obj.cells #[.slice aS' (x.ps.take (S.now + 1) ++ [p']).length cS', .slice aM' (x.qs.take S.now ++ [(plainF m, a13, cap13)]).length cM', .int .i64 z] 95 (0, 0))) hw1
        have hbS'0 : bS' = x.bS ∨ ∃ g, bS' = some g ∧ h7.size ≤ g := hbS'.imp id fun ⟨g, h1, h2⟩ => ⟨g, h1, Nat.le_trans (hN10.chg []).size h2⟩
        have hbM'0 : bM' = x.bM ∨ ∃ g, bM' = some g ∧ h7.size ≤ g := hbM'.imp id fun ⟨g, h1, h2⟩ => ⟨g, h1, by omega⟩
        have hfin : DoOk x M h st (doF S m) (.tuple #[.int .i64 n, .int .i64 0]) h17 := by
          obtain ⟨N1, hN1, hN1'⟩ := grown_new hbS'0
          obtain ⟨N2, hN2, hN2'⟩ := grown_new hbM'0
          have hF : ∀ k, k ∈ x.foot st → k ∈ M := y.foot
          have hstF := x.mem_st st
          have c12 : Chg (x.foot st) h7 h12 := ((hN10.chg _).trans (hc11.mono (fun k hk => x.mem_S st (by simpa using hk)))).trans (hU12.chg hstF)
          have c16 : Chg (x.foot st) h12 h17 := ((hc1214.mono (by simp)).trans (hc15.mono (fun k hk => x.mem_M st (by simpa using hk)))).trans ((hU16.chg hstF).trans (hU17.chg hstF))
          have c7 : Chg (x.foot st) h7 h17 := c12.trans c16
          have c0 : Chg (x.foot st) h h17 := (hc07.mono (by simp)).trans c7
          have hN7 : ∀ k, k ∈ N1 ++ N2 → h7.size ≤ k := fun k hk => (List.mem_append.1 hk).elim (fun hk => (hN1 k hk).1) (fun hk => (hN2 k hk).1)
          have hN0 : ∀ k, k ∈ N1 ++ N2 → h.size ≤ k := fun k hk => Nat.le_trans hsz7 (hN7 k hk)
          have hFN : ∀ k, k ∈ x.foot st → k ∈ (N1 ++ N2) ++ M := fun k hk => List.mem_append_right _ (hF k hk)
          have hsts17 : StsOwn h17 aS' cS' (x.ps.take (S.now + 1) ++ [p']) bS' := (ho15s.wr hU16 hS'st).wr hU17 hS'st
          have hmvs17 : MvsOwn h17 aM' cM' (x.qs.take S.now ++ [(plainF m, a13, cap13)]) bM' := (ho15.wr hU16 hM'st).wr hU17 hM'st
          have hσM : StOk M h7 p' σ' := hσ7.sub (fun k hk => List.mem_cons_of_mem _ hk)
          have hσ17 : StOk ((N1 ++ N2) ++ M) h17 p' σ' := (hσM.pushL _ hN7).chg c7 hFN
          have hst17 : StsOk ((N1 ++ N2) ++ M) h17 (x.ps.take (S.now + 1) ++ [p']) (S.states.take (S.now + 1) ++ [σ']) := by
            refine ⟨by simp only [List.length_append, List.length_take, List.length_singleton]; omega, fun i q τ hi hτ => ?_⟩
            by_cases hlt : i < S.now + 1
            · rw [List.getElem?_append_left (by rw [List.length_take]; omega), List.getElem?_take, if_pos hlt] at hi
              rw [List.getElem?_append_left (by rw [List.length_take]; omega), List.getElem?_take, if_pos hlt] at hτ
              exact ((y.stsOk.2 i q τ hi hτ).pushL _ hN0).chg c0 hFN
            · rw [List.getElem?_append_right (by rw [List.length_take]; omega), List.length_take] at hi
              rw [List.getElem?_append_right (by rw [List.length_take]; omega), List.length_take] at hτ
              have e1 : i - min (S.now + 1) x.ps.length = 0 := by
                have := (List.getElem?_eq_some_iff.1 hi).1
                rw [List.length_singleton] at this
                omega
              have e2 : i - min (S.now + 1) S.states.length = 0 := by
                have := (List.getElem?_eq_some_iff.1 hτ).1
                rw [List.length_singleton] at this
                omega
              rw [e1] at hi
              rw [e2] at hτ
              cases hi
              cases hτ
              exact hσ17
          have hmv17 : MvsOk ((N1 ++ N2) ++ M) h17 (x.qs.take S.now ++ [(plainF m, a13, cap13)]) (S.moves.take S.now ++ [plainF m]) := by
            refine ⟨by rw [List.map_append, List.map_take, y.mvsOk.1]; rfl, fun q hq => ?_⟩
            rcases List.mem_append.1 hq with hq | hq
            · have := y.mvsOk.2 q (List.mem_of_mem_take hq)
              exact ⟨(this.1.pushL _ hN0).chg c0 hFN, this.2⟩
            · rw [List.mem_singleton] at hq
              subst hq
              refine ⟨?_, plainF_nos hz⟩
              have h14o := ho13.ext (hN14.chg [])
              have hne : ∀ g, blk13 = some g → g ∉ x.bM.toList := fun g hg hm => by
                have h1 := hf13 g hg
                have h2 := y.mvs.lt g (by simpa using hm)
                omega
              have hne2 : ∀ g, blk13 = some g → g ≠ st := fun g hg => by
                have h1 := hf13 g hg
                omega
              have hne3 : ∀ g, blk13 = some g → g ∉ (N1 ++ N2) ++ M := fun g hg hm => by
                have h1 := hf13 g hg
                have h3 := ho13.lt g hg
                rcases List.mem_append.1 hm with hm | hm
                · rcases List.mem_append.1 hm with hm | hm
                  · have h4 := ho11.lt g (hN1 g hm).2
                    omega
                  · have h4 := (hN2 g hm).2
                    rcases hbM' with h5 | ⟨g', h5, h6⟩
                    · rw [h5] at h4
                      have := y.mvs.lt g h4
                      omega
                    · rw [h5] at h4
                      cases h4
                      have := hN14.size
                      have := hN14.le
                      omega
                · have := hM g hm
                  omega
              exact (((h14o.chg hc15 hne).wr hU16 hne2).wr hU17 hne2).sl hne3
          have hbd : Bd ((N1 ++ N2) ++ M) h17 := by
            intro k hk
            rcases List.mem_append.1 hk with hk | hk
            · rcases List.mem_append.1 hk with hk | hk
              · exact hsts17.lt k (hN1 k hk).2
              · exact hmvs17.lt k (hN2 k hk).2
            · exact Nat.lt_of_lt_of_le (hM k hk) c0.size
          have hfoot : ∀ k, k ∈ StoP.foot ⟨x.ps.take (S.now + 1) ++ [p'], x.qs.take S.now ++ [(plainF m, a13, cap13)], aS', cS', bS', aM', cM', bM'⟩ st → k ∈ x.foot st ∨ k ∈ N1 ++ N2 := by
            intro k hk
            unfold StoP.foot at hk
            rcases List.mem_cons.1 hk with rfl | hk
            · exact .inl hstF
            · rcases List.mem_append.1 hk with hk | hk
              · rcases hN1' k hk with h1 | h1
                · exact .inl (x.mem_S st (by simpa using h1))
                · exact .inr (List.mem_append_left _ h1)
              · rcases hN2' k hk with h1 | h1
                · exact .inl (x.mem_M st (by simpa using h1))
                · exact .inr (List.mem_append_right _ h1)
          rw [hdo]
          refine ⟨rfl, _, N1 ++ N2, ⟨hblk17, hsts17, hmvs17, hst17, hmv17, fun k hk => (hfoot k hk).elim (hFN k) (fun h1 => List.mem_append_left _ h1), ?_, ?_, ?_⟩, hbd, c0, fun k hk => (hfoot k hk).imp id (hN0 k), hN0⟩
          · simp only [List.length_append, List.length_take, List.length_singleton]; omega
          · simp only [List.length_append, List.length_take, List.length_singleton]; omega
          · simp only [List.length_append, List.length_take, List.length_singleton]; omega
        exact wp_done ⟨rfl, hfin⟩
end Go.Xe
namespace Go.Xe
open Go Go.Proofs
set_option maxRecDepth 20000
variable {c : World}
def zStP : StP := ⟨none, none, none, none, none⟩
def elVw (ok : Bool) (p : StP) : List Value := [.bool ok, .pointer p.c, .pointer p.n, .pointer p.b, .pointer p.l, .pointer p.t]
/-- a view, nil, zero or of a version -/
def VwIs (h : Hp) (a : Option Addr) (p : StP) (ok : Bool) : Prop := (a = none ∧ p = zStP ∧ ok = false) ∨ ∃ b, a = some ⟨b, 0, none⟩ ∧ h[b]? = some (.cells (elVw ok p).toArray 114 (0, 0)) ∧ (ok = false → p = zStP)
def missE (ok : Bool) : Int := bif ok then 7 else 1
theorem VwIs.ext {h h' : Hp} {a : Option Addr} {p : StP} {ok : Bool} (x : Chg [] h h') (y : VwIs h a p ok) : VwIs h' a p ok := y.imp id fun ⟨b, h1, h2, h3⟩ => ⟨b, h1, x.of h2 (by simp), h3⟩
theorem at_c (x : StoP) (M : List Nat) (st : Nat) (S : StoreR) (ver : Int) (h : Hp) (y : StoreAt x M h st S) (hM : Bd M h) :
    Call c Tryz.prog 32 #[.pointer (some ⟨st, 0, none⟩), .int .i64 ver] h fun v h' => Chg [] h h' ∧
      (((ver < 0 ∨ ver > S.now) ∧ v = .tuple #[.pointer none, .int .i64 7]) ∨
       ∃ (i : Nat) (σ : StateR) (b : Nat) (p : StP), ver = i ∧ i ≤ S.now ∧ S.states[i]? = some σ ∧ v = .tuple #[.pointer (some ⟨b, 0, none⟩), .int .i64 0] ∧ h.size ≤ b ∧ h'[b]? = some (.cells (elVw true p).toArray 114 (0, 0)) ∧ StOk (b :: M) h' p σ) := by
  refine call_of layOk 30 Tryz.func32 Tryz.ntmps32 rfl rfl rfl rfl ?_
  refine wp_call (made_t y) ?_
  rintro _ h ⟨rfl, rfl⟩
  refine wp_brF rfl ?_
  refine wp_br (fun g1 => ?_) (fun g1 => ?_)
  · have d1 : ver < 0 := of_decide_eq_true g1
    repeat (first | refine wp_brT rfl ?_ | refine wp_brF rfl ?_)
    exact wp_done ⟨rfl, Chg.refl _ _, .inl ⟨.inl d1, rfl⟩⟩
  · have d1 : ¬ ver < 0 := of_decide_eq_false g1
    repeat (first | refine wp_brT rfl ?_ | refine wp_brF rfl ?_)
    refine wp_load (ld_of y.blk rfl) ?_
    repeat (first | refine wp_brT rfl ?_ | refine wp_brF rfl ?_)
    refine wp_br (fun g2 => ?_) (fun g2 => ?_)
    · have d2 : ver > (S.now : Int) := of_decide_eq_true g2
      exact wp_done ⟨rfl, Chg.refl _ _, .inl ⟨.inr d2, rfl⟩⟩
    · have d2 : ¬ ver > (S.now : Int) := of_decide_eq_false g2
      have hn := y.now
      have hl := y.stsOk.1
      have hi : ver.toNat < S.states.length := by omega
      have hip : ver.toNat < x.ps.length := by omega
      have hpe := List.getElem?_eq_getElem hip
      have hse := List.getElem?_eq_getElem hi
      have hσ := y.stsOk.2 _ _ _ hpe hse
      generalize x.ps[ver.toNat] = p at hpe hσ
      generalize S.states[ver.toNat] = σ at hse hσ
      obtain ⟨bs, hqs, hqb⟩ := y.sts.ptr (i := ti112) hip
      have hb : h[st]? = some (.cells #[.slice (some ⟨bs, 0, none⟩) x.ps.length x.cS, .slice x.aM x.qs.length x.cM, .int .i64 S.now] 95 (0, 0)) := by rw [← hqs]; exact y.blk
      have ho : StsOwn h (some ⟨bs, 0, none⟩) x.cS x.ps x.bS := by rw [← hqs]; exact y.sts
      refine wp_load (ld_of hb rfl) ?_
      refine wp_chk ⟨by omega, by omega⟩ ?_
      refine wp_load (ho.ld1 (i := ti112) enSt hpe) ?_
      refine wp_new ?_
      intro b h1 hN
      exact wp_done ⟨rfl, hN.chg [], .inr ⟨ver.toNat, σ, b, p, by omega, by omega, hse, rfl, hN.le, hN.here, (hσ.push hN.le).ext (hN.chg [])⟩⟩
theorem state_c (h : Hp) (a : Option Addr) (p : StP) (ok : Bool) (y : VwIs h a p ok) : Call c Tryz.prog 62 #[.pointer a] h fun v h' => v = vSt p ∧ Chg [] h h' := by
  refine call_ofM layOk 17 Tryz.func62 Tryz.ntmps62 rfl rfl rfl ?_
  refine wp_new ?_
  intro b2 h1 hN
  have hc := hN.chg []
  rcases y with ⟨rfl, rfl, rfl⟩ | ⟨b, rfl, hb, hz⟩
  · repeat (first | refine wp_brT rfl ?_ | refine wp_brF rfl ?_)
    refine wp_store hN.here (by rfl) ?_
    intro h2 hU
    exact wp_done (finM_at [vSt zStP] rfl ⟨⟨_, _, _, rfl, rfl, ld_of hU.here rfl⟩, trivial⟩ ⟨rfl, hU.chgGe hc hN.le⟩)
  · repeat (first | refine wp_brT rfl ?_ | refine wp_brF rfl ?_)
    have hb1 := hN.of hb
    refine wp_load (ld_of hb1 rfl) ?_
    repeat (first | refine wp_brT rfl ?_ | refine wp_brF rfl ?_)
    cases ok with
    | false =>
      rw [hz rfl] at *
      refine wp_brT rfl ?_
      refine wp_store hN.here (by rfl) ?_
      intro h2 hU
      exact wp_done (finM_at [vSt zStP] rfl ⟨⟨_, _, _, rfl, rfl, ld_of hU.here rfl⟩, trivial⟩ ⟨rfl, hU.chgGe hc hN.le⟩)
    | true =>
      refine wp_brF rfl ?_
      refine wp_load (v := vSt p) (ld_of hb1 rfl) ?_
      refine wp_store hN.here (by rfl) ?_
      intro h2 hU
      exact wp_done (finM_at [vSt p] rfl ⟨⟨_, _, _, rfl, rfl, ld_of hU.here rfl⟩, trivial⟩ ⟨rfl, hU.chgGe hc hN.le⟩)
theorem missing_c (h : Hp) (a : Option Addr) (p : StP) (ok : Bool) (y : VwIs h a p ok) : Call c Tryz.prog 83 #[.pointer a] h fun v h' => v = .int .i64 (missE ok) ∧ h' = h := by
  refine call_of layOk 12 Tryz.func83 Tryz.ntmps83 rfl rfl rfl rfl ?_
  rcases y with ⟨rfl, rfl, rfl⟩ | ⟨b, rfl, hb, hz⟩
  · repeat (first | refine wp_brT rfl ?_ | refine wp_brF rfl ?_)
    exact wp_done ⟨rfl, rfl, rfl⟩
  · repeat (first | refine wp_brT rfl ?_ | refine wp_brF rfl ?_)
    refine wp_load (ld_of hb rfl) ?_
    repeat (first | refine wp_brT rfl ?_ | refine wp_brF rfl ?_)
    cases ok with
    | false => exact wp_brT rfl (wp_done ⟨rfl, rfl, rfl⟩)
    | true => exact wp_brF rfl (wp_done ⟨rfl, rfl, rfl⟩)
/-- a bale's value in memory of its own -/
def OwnBale (h0 h : Hp) (r : BaleR) (v : Value) : Prop := ∃ (q : BalP) (bp bf : Option Nat), v = vBale r q ∧ PartsOwn h q.pa q.pc r.parts bp ∧ IntsOwn h q.fa q.fc r.from_ bf ∧ Fresh h0 bp ∧ Fresh h0 bf
theorem own_c (M : List Nat) (h : Hp) (b : Nat) (r : BaleR) (y : BaleAt M h b r) (hz : r.parts.length < 900000) (hz2 : r.from_.length < 900000) : Call c Tryz.prog 64 #[.pointer (some ⟨b, 0, none⟩)] h fun v h' => OwnBale h h' r v ∧ Chg [] h h' := by
  obtain ⟨q, hbM, hb, hq⟩ := y
  refine call_ofM layOk 20 Tryz.func64 Tryz.ntmps64 rfl rfl rfl ?_
  refine wp_new ?_
  intro b2 h1 hN1
  refine wp_load (v := vBale r q) (ld_of (hN1.of hb) rfl) ?_
  refine wp_new ?_
  intro b3 h2 hN2
  refine wp_store hN2.here (by rfl) ?_
  intro h3 hU3
  have hle3 : h.size ≤ b3 := Nat.le_trans (hN1.chg []).size hN2.le
  have hc3 : Chg [] h h3 := hU3.chgGe ((hN1.chg []).trans (hN2.chg [])) hle3
  have hb3 := hc3.of hb (by simp)
  have h12 : b2 ≠ b3 := hN2.ne hN1.here
  have hb23 := hU3.of (hN2.of hN1.here) h12
  have hl2 := (Array.getElem?_eq_some_iff.1 hb23).1
  have hl3 := (Array.getElem?_eq_some_iff.1 hU3.here).1
  refine wp_ord layOk mixed [(0, 3), (5, 8), (4, 4), (10, 10), (9, 9), (11, 13)] [4] (by kernel_rfl) ?_
  refine wp_load (v := .slice q.pa r.parts.length q.pc) (ld_of hb3 rfl) ?_
  refine wp_load (v := .slice q.fa r.from_.length q.fc) (ld_of hb3 rfl) ?_
  refine wp_callE (clone104_c M r.parts q.pa q.pc h3 (hq.1.ext hc3) hz) ?_
  rintro _ h4 ⟨a4, cap4, blk4, rfl, ho4, hc4, hf4⟩
  refine ⟨hc4, ?_⟩
  refine wp_call (clone66_c M r.from_ q.fa q.fc h4 ((hq.2.ext hc3).ext hc4) hz2) ?_
  rintro _ h5 ⟨a5, cap5, blk5, rfl, ho5, hc5, hf5⟩
  have hc35 := hc4.trans hc5
  refine wp_store (hc35.of hU3.here (by simp)) (by rfl) ?_
  intro h6 hU6
  refine wp_store hU6.here (by rfl) ?_
  intro h7 hU7
  have n4 : ∀ g, blk4 = some g → h3.size ≤ g := hf4
  have n5 : ∀ g, blk5 = some g → h3.size ≤ g := fun g hg => Nat.le_trans hc4.size (hf5 g hg)
  refine wp_load (v := vBale r ⟨a4, cap4, a5, cap5⟩) (ld_of hU7.here rfl) ?_
  refine wp_store (hU7.of (hU6.of (hc35.of hb23 (by simp)) h12) h12) (by rfl) ?_
  intro h8 hU8
  have hw : ∀ {g : Nat}, h3.size ≤ g → g ≠ b3 ∧ g ≠ b2 := fun hg => ⟨by omega, by omega⟩
  refine wp_done (finM_at [vBale r ⟨a4, cap4, a5, cap5⟩] rfl ⟨⟨_, _, _, rfl, rfl, ld_of hU8.here rfl⟩, trivial⟩ ⟨⟨⟨a4, cap4, a5, cap5⟩, blk4, blk5, rfl, ?_, ?_, fun g hg => Nat.le_trans hc3.size (n4 g hg), fun g hg => Nat.le_trans hc3.size (n5 g hg)⟩, ?_⟩)
  · exact (((ho4.ext hc5).wr hU6 fun g hg => (hw (n4 g hg)).1).wr hU7 fun g hg => (hw (n4 g hg)).1).wr hU8 fun g hg => (hw (n4 g hg)).2
  · exact ((ho5.wr hU6 fun g hg => (hw (n5 g hg)).1).wr hU7 fun g hg => (hw (n5 g hg)).1).wr hU8 fun g hg => (hw (n5 g hg)).2
  · exact hU8.chgGe (hU7.chgGe (hU6.chgGe (hc3.trans hc35) hle3) hle3) hN1.le
theorem bale_c (M : List Nat) (h : Hp) (a : Option Addr) (p : StP) (ok : Bool) (σ : StateR) (no : Int) (y : VwIs h a p ok) (hσ : StOk M h p σ) (hz : ∀ r, getL eqI no σ.bales = some r → r.parts.length < 900000 ∧ r.from_.length < 900000) :
    Call c Tryz.prog 55 #[.pointer a, .int .i64 no] h fun v h' => Chg [] h h' ∧ match getL eqI no σ.bales with
      | none => v = .tuple #[vBale zBaleR zBalP, .int .i64 (missE ok)]
      | some r => ∃ u, v = .tuple #[u, .int .i64 0] ∧ OwnBale h h' r u := by
  obtain ⟨ys, hm, ha⟩ := hσ.bales
  refine call_ofM layOk 23 Tryz.func55 Tryz.ntmps55 rfl rfl rfl ?_
  refine wp_new ?_
  intro b4 h1 hN
  have hc1 := hN.chg []
  refine wp_call (state_c h1 a p ok (y.ext hc1)) ?_
  rintro _ h2 ⟨rfl, hc2⟩
  have hc02 := hc1.trans hc2
  refine wp_call (BI.get_c M ys no p.b h2 (hm.ext hc02)) ?_
  rintro _ h3 ⟨rfl, hc3⟩
  have hc03 := hc02.trans hc3
  have hb4 := hc3.of (hc2.of hN.here (by simp)) (by simp)
  rcases ha.get eqI no with ⟨e1, e2⟩ | ⟨bk, r, e1, e2, hb⟩
  · unfold BI.getV
    rw [e1, e2]
    refine wp_brT rfl ?_
    refine wp_call (missing_c h3 a p ok (y.ext hc03)) ?_
    rintro _ h3 ⟨rfl, rfl⟩
    refine wp_store hb4 (by rfl) ?_
    intro h4 hU4
    exact wp_done (finM_at [vBale zBaleR zBalP, .int .i64 (missE ok)] rfl ⟨⟨_, _, _, rfl, rfl, ld_of hU4.here rfl⟩, rfl, trivial⟩ ⟨hU4.chgGe hc03 hN.le, rfl⟩)
  · unfold BI.getV
    rw [e1, e2]
    have hz' := hz r e2
    refine wp_brF rfl ?_
    refine wp_call (own_c M h3 bk r (hb.chg hc03 (by simp)) hz'.1 hz'.2) ?_
    rintro _ h4 ⟨⟨q, bp, bf, rfl, h5, h6, h7, h8⟩, hc4⟩
    refine wp_store (hc4.of hb4 (by simp)) (by rfl) ?_
    intro h9 hU9
    have hl4 := (Array.getElem?_eq_some_iff.1 hb4).1
    refine wp_done (finM_at [vBale r q, .int .i64 0] rfl ⟨⟨_, _, _, rfl, rfl, ld_of hU9.here rfl⟩, rfl, trivial⟩ ⟨hU9.chgGe (hc03.trans hc4) hN.le, _, rfl, q, bp, bf, rfl, ?_, ?_, h7.back hc03.size, h8.back hc03.size⟩)
    · exact h5.wr hU9 fun g hg => by have := h7 g hg; omega
    · exact h6.wr hU9 fun g hg => by have := h8 g hg; omega
end Go.Xe
namespace Go.Xe
open Go Go.Proofs
set_option maxRecDepth 20000
variable {c : World}
def vLot (l : LotR) (a : Option Addr) (cap : Nat) : Value := .agg #[.string l.name, .slice a l.bales.length cap, .bool l.sent]
def zLotR : LotR := ⟨⟨#[]⟩, [], false⟩
theorem lot_c (M : List Nat) (h : Hp) (a : Option Addr) (p : StP) (ok : Bool) (σ : StateR) (name : ByteArray) (y : VwIs h a p ok) (hσ : StOk M h p σ) (hz : ∀ l, getL eqS name σ.lots = some l → l.bales.length < 900000) :
    Call c Tryz.prog 43 #[.pointer a, .string name] h fun v h' => Chg [] h h' ∧ match getL eqS name σ.lots with
      | none => v = .tuple #[vLot zLotR none 0, .int .i64 (missE ok)]
      | some l => ∃ a' cap' blk', v = .tuple #[vLot l a' cap', .int .i64 0] ∧ IntsOwn h' a' cap' l.bales blk' ∧ Fresh h blk' := by
  obtain ⟨ys, hm, ha⟩ := hσ.lots
  refine call_ofM layOk 35 Tryz.func43 Tryz.ntmps43 rfl rfl rfl ?_
  refine wp_new ?_
  intro b4 h1 hN
  have hc1 := hN.chg []
  refine wp_call (state_c h1 a p ok (y.ext hc1)) ?_
  rintro _ h2 ⟨rfl, hc2⟩
  have hc02 := hc1.trans hc2
  refine wp_call (SL.get_c M ys name p.l h2 (hm.ext hc02)) ?_
  rintro _ h3 ⟨rfl, hc3⟩
  have hc03 := hc02.trans hc3
  have hb4 := hc3.of (hc2.of hN.here (by simp)) (by simp)
  rcases ha.get eqS name with ⟨e1, e2⟩ | ⟨bk, l, e1, e2, hb⟩
  · unfold SL.getV
    rw [e1, e2]
    refine wp_brT rfl ?_
    refine wp_call (missing_c h3 a p ok (y.ext hc03)) ?_
    rintro _ h3 ⟨rfl, rfl⟩
    refine wp_store hb4 (by rfl) ?_
    intro h4 hU4
    exact wp_done (finM_at [vLot zLotR none 0, .int .i64 (missE ok)] rfl ⟨⟨_, _, _, rfl, rfl, ld_of hU4.here rfl⟩, rfl, trivial⟩ ⟨hU4.chgGe hc03 hN.le, rfl⟩)
  · unfold SL.getV
    rw [e1, e2]
    have hz' := hz l e2
    obtain ⟨al, capl, hbM, hbb, hl⟩ := hb
    have hbb3 := hc03.of hbb (by simp)
    refine wp_brF rfl ?_
    refine wp_ord layOk mixed [(0, 7), (9, 12), (8, 8), (13, 15)] [8] (by kernel_rfl) ?_
    refine wp_load (v := .string l.name) (ld_of hbb3 rfl) ?_
    refine wp_load (v := .slice al l.bales.length capl) (ld_of hbb3 rfl) ?_
    refine wp_load (v := .bool l.sent) (ld_of hbb3 rfl) ?_
    refine wp_callE (clone66_c M l.bales al capl h3 (hl.ext hc03) hz') ?_
    rintro _ h4 ⟨a4, cap4, blk4, rfl, ho4, hc4, hf4⟩
    refine ⟨hc4, ?_⟩
    refine wp_store (hc4.of hb4 (by simp)) (by rfl) ?_
    intro h5 hU5
    have hl4 := (Array.getElem?_eq_some_iff.1 hb4).1
    exact wp_done (finM_at [vLot l a4 cap4, .int .i64 0] rfl ⟨⟨_, _, _, rfl, rfl, ld_of hU5.here rfl⟩, rfl, trivial⟩ ⟨hU5.chgGe (hc03.trans hc4) hN.le, a4, cap4, blk4, rfl, ho4.wr hU5 fun g hg => by have := hf4 g hg; omega, hf4.back hc03.size⟩)
theorem totals_c (M : List Nat) (h : Hp) (a : Option Addr) (p : StP) (ok : Bool) (σ : StateR) (clip : Int) (y : VwIs h a p ok) (hσ : StOk M h p σ) :
    Call c Tryz.prog 56 #[.pointer a, .int .i64 clip] h fun v h' => Chg [] h h' ∧ v = (if (getL eqI clip σ.clips).isSome then .tuple #[vTot (totOf σ.totals clip), .int .i64 0] else .tuple #[vTot zTotR, .int .i64 (missE ok)]) := by
  have hgt : ∃ bo, TI.getV clip σ.totals = .tuple #[vTot (totOf σ.totals clip), .bool bo] := by
    unfold TI.getV totOf
    cases getL eqI clip σ.totals with
    | none => exact ⟨false, rfl⟩
    | some t => exact ⟨true, rfl⟩
  obtain ⟨bo, hgt⟩ := hgt
  have hgv : ∃ x, CI.getV clip σ.clips = .tuple #[vClip x, .bool (getL eqI clip σ.clips).isSome] := by
    unfold CI.getV
    cases getL eqI clip σ.clips with
    | none => exact ⟨⟨0, ⟨#[]⟩, ⟨#[]⟩⟩, rfl⟩
    | some t => exact ⟨t, rfl⟩
  obtain ⟨x, hgv⟩ := hgv
  refine call_ofM layOk 33 Tryz.func56 Tryz.ntmps56 rfl rfl rfl ?_
  refine wp_new ?_
  intro b4 h1 hN
  have hc1 := hN.chg []
  refine wp_call (state_c h1 a p ok (y.ext hc1)) ?_
  rintro _ h2 ⟨rfl, hc2⟩
  have hb42 := hc2.of hN.here (by simp)
  refine wp_new ?_
  intro b6 h3 hN3
  refine wp_store hN3.here (by rfl) ?_
  intro h4 hU4
  have hc24 : Chg [] h2 h4 := hU4.chgGe (hN3.chg []) hN3.le
  have hc04 := (hc1.trans hc2).trans hc24
  have hb44 := hc24.of hb42 (by simp)
  have hget := CI.get_c (c := c) M σ.clips clip p.c h4 (hσ.ext hc04).clips
  rw [hgv] at hget
  refine wp_load (ld_of hU4.here rfl) ?_
  refine wp_call hget ?_
  rintro _ h5 ⟨rfl, hc5⟩
  have hb65 := hc5.of hU4.here (by simp)
  refine wp_new ?_
  intro b7 h6 hN6
  refine wp_store hN6.here (by rfl) ?_
  intro h7 hU7
  have hc57 : Chg [] h5 h7 := hU7.chgGe (hN6.chg []) hN6.le
  have hc07 := (hc04.trans hc5).trans hc57
  have hb47 := hc57.of (hc5.of hb44 (by simp)) (by simp)
  have hb67 := hc57.of hb65 (by simp)
  cases hcl : (getL eqI clip σ.clips).isSome with
  | false =>
    refine wp_brT (by rfl) ?_
    refine wp_call (missing_c h7 a p ok (y.ext hc07)) ?_
    rintro _ h7 ⟨rfl, rfl⟩
    refine wp_store hb47 (by rfl) ?_
    intro h8 hU8
    exact wp_done (finM_at [vTot zTotR, .int .i64 (missE ok)] rfl ⟨⟨_, _, _, rfl, rfl, ld_of hU8.here rfl⟩, rfl, trivial⟩ ⟨hU8.chgGe hc07 hN.le, rfl⟩)
  | true =>
    have hget2 := TI.get_c (c := c) M σ.totals clip p.t h7 (hσ.ext hc07).totals
    rw [hgt] at hget2
    refine wp_brF (by rfl) ?_
    refine wp_load (ld_of hb67 rfl) ?_
    refine wp_call hget2 ?_
    rintro _ h8 ⟨rfl, hc8⟩
    have hb48 := hc8.of hb47 (by simp)
    refine wp_new ?_
    intro b9 h9 hN9
    refine wp_store hN9.here (by rfl) ?_
    intro h10 hU10
    have hc810 : Chg [] h8 h10 := hU10.chgGe (hN9.chg []) hN9.le
    have hc010 := (hc07.trans hc8).trans hc810
    refine wp_load (v := vTot (totOf σ.totals clip)) (ld_of hU10.here rfl) ?_
    refine wp_store (hc810.of hb48 (by simp)) (by rfl) ?_
    intro h11 hU11
    exact wp_done (finM_at [vTot (totOf σ.totals clip), .int .i64 0] rfl ⟨⟨_, _, _, rfl, rfl, ld_of hU11.here rfl⟩, rfl, trivial⟩ ⟨hU11.chgGe hc010 hN.le, rfl⟩)
theorem sourcesN_c (M : List Nat) (h : Hp) (a : Option Addr) (p : StP) (ok : Bool) (σ : StateR) (no : Int) (y : VwIs h a p ok) (hσ : StOk M h p σ) (hno : getL eqI no σ.bales = none) :
    Call c Tryz.prog 47 #[.pointer a, .int .i64 no] h fun v h' => Chg [] h h' ∧ v = .tuple #[.slice none 0 0, .int .i64 (missE ok)] := by
  obtain ⟨ys, hm, ha⟩ := hσ.bales
  have e1 : getL eqI no ys = none := by
    rcases ha.get eqI no with ⟨e1, e2⟩ | ⟨bk, r, e1, e2, hb⟩
    · exact e1
    · rw [hno] at e2; cases e2
  refine call_of layOk 43 Tryz.func47 Tryz.ntmps47 rfl rfl rfl rfl ?_
  refine wp_call (state_c h a p ok y) ?_
  rintro _ h1 ⟨rfl, hc1⟩
  refine wp_new ?_
  intro b6 h3 hN3
  refine wp_store hN3.here (by rfl) ?_
  intro h4 hU4
  have hc04 : Chg [] h h4 := hc1.trans (hU4.chgGe (hN3.chg []) hN3.le)
  refine wp_load (ld_of hU4.here rfl) ?_
  refine wp_call (BI.get_c M ys no p.b h4 (hm.ext hc04)) ?_
  rintro _ h5 ⟨rfl, hc5⟩
  unfold BI.getV
  rw [e1]
  refine wp_brT rfl ?_
  refine wp_call (missing_c h5 a p ok (y.ext (hc04.trans hc5))) ?_
  rintro _ h5 ⟨rfl, rfl⟩
  exact wp_done ⟨rfl, hc04.trans hc5, rfl⟩
theorem heirsN_c (M : List Nat) (h : Hp) (a : Option Addr) (p : StP) (ok : Bool) (σ : StateR) (no : Int) (y : VwIs h a p ok) (hσ : StOk M h p σ) (hno : getL eqI no σ.bales = none) :
    Call c Tryz.prog 48 #[.pointer a, .int .i64 no] h fun v h' => Chg [] h h' ∧ v = .tuple #[.slice none 0 0, .int .i64 (missE ok)] := by
  obtain ⟨ys, hm, ha⟩ := hσ.bales
  have e1 : getL eqI no ys = none := by
    rcases ha.get eqI no with ⟨e1, e2⟩ | ⟨bk, r, e1, e2, hb⟩
    · exact e1
    · rw [hno] at e2; cases e2
  refine call_ofM layOk 47 Tryz.func48 Tryz.ntmps48 rfl rfl rfl ?_
  refine wp_call (state_c h a p ok y) ?_
  rintro _ h1 ⟨rfl, hc1⟩
  refine wp_new ?_
  intro b6 h3 hN3
  refine wp_store hN3.here (by rfl) ?_
  intro h4 hU4
  have hc04 : Chg [] h h4 := hc1.trans (hU4.chgGe (hN3.chg []) hN3.le)
  refine wp_load (ld_of hU4.here rfl) ?_
  refine wp_call (BI.get_c M ys no p.b h4 (hm.ext hc04)) ?_
  rintro _ h5 ⟨rfl, hc5⟩
  unfold BI.getV
  rw [e1]
  refine wp_brT rfl ?_
  refine wp_call (missing_c h5 a p ok (y.ext (hc04.trans hc5))) ?_
  rintro _ h5 ⟨rfl, rfl⟩
  exact wp_done (finM_at [.slice none 0 0, .int .i64 (missE ok)] rfl ⟨rfl, rfl, trivial⟩ ⟨hc04.trans hc5, rfl⟩)
end Go.Xe
namespace Go.Xe
open Go Go.Proofs
set_option maxRecDepth 20000
section
variable {α β : Type} {e sz e2 sz2 T : Nat} {enc : α → List Value} {enc2 : β → List Value}
theorem OwnAt.apart {h h' : Hp} {a a2 : Option Addr} {cap cap2 : Nat} {l : List α} {l2 : List β} {blk blk2 : Option Nat}
    (x : Chg blk2.toList h h') (ho : OwnAt e2 sz2 enc2 h a2 cap2 l2 blk2) (he : e2 ≠ e) (y : OwnAt e sz enc h a cap l blk) : OwnAt e sz enc h' a cap l blk := by
  refine y.chg x fun g hg hm => ?_
  have hm : blk2 = some g := by simpa using hm
  rcases ho with ⟨_, _, _, r⟩ | ⟨g1, cs, _, r, r2, _⟩
  · rw [r] at hm; cases hm
  · rcases y with ⟨_, _, _, q⟩ | ⟨g2, cs2, _, q, q2, _⟩
    · rw [q] at hg; cases hg
    · rw [r] at hm
      rw [q] at hg
      cases hg
      cases hm
      exact ne_of_ty r2 q2 he rfl
theorem OwnAt.ne {h : Hp} {a : Option Addr} {cap : Nat} {l : List α} {blk : Option Nat} {b : Nat} {cs : Array Value} {fz : Nat × Nat} (y : OwnAt e sz enc h a cap l blk) (hb : h[b]? = some (.cells cs T fz)) (hT : T ≠ e) : ∀ g, blk = some g → g ≠ b := by
  intro g hg
  rcases y with ⟨_, _, _, q⟩ | ⟨g2, cs2, _, q, q2, _⟩
  · rw [q] at hg; cases hg
  · rw [q] at hg
    cases hg
    exact ne_of_ty q2 hb hT.symm
/-- what was collected lies in a block of its own, named in b -/
structure CollAt (e sz : Nat) (enc : α → List Value) (T : Nat) (h0 : Hp) (b : Nat) (l : List α) (h : Hp) (a : Option Addr) (cap : Nat) (blk : Option Nat) : Prop where
  cell : h[b]? = some (.cells #[.slice a l.length cap] T (0, 0))
  own : OwnAt e sz enc h a cap l blk
  chg : Chg [b] h0 h
  size : h0.size + 2 ≤ h.size
  new : ∀ g, blk = some g → h0.size + 2 ≤ g
def Coll (e sz : Nat) (enc : α → List Value) (T : Nat) (h0 : Hp) (b : Nat) (l : List α) (h : Hp) : Prop := ∃ a cap blk, CollAt e sz enc T h0 b l h a cap blk
variable {h0 h h' : Hp} {b : Nat} {l : List α}
theorem CollAt.upd {a : Option Addr} {cap : Nat} {blk : Option Nat} (hb : b < h0.size) {k : Nat} {o : Obj} (hk : k = h0.size ∨ k = h0.size + 1) (x : Upd h h' k o) (y : CollAt e sz enc T h0 b l h a cap blk) : CollAt e sz enc T h0 b l h' a cap blk :=
  ⟨x.of y.cell (by omega), y.own.wr x (fun g hg => by have := y.new g hg; omega), ⟨by rw [x.size]; exact y.chg.size, fun j hj hm => (x.other j (by omega)).trans (y.chg.same j hj hm)⟩, by rw [x.size]; exact y.size, y.new⟩
theorem Coll.upd (hb : b < h0.size) {k : Nat} {o : Obj} (hk : k = h0.size ∨ k = h0.size + 1) (x : Upd h h' k o) (y : Coll e sz enc T h0 b l h) : Coll e sz enc T h0 b l h' := by
  obtain ⟨a, cap, blk, y⟩ := y
  exact ⟨a, cap, blk, y.upd hb hk x⟩
theorem Coll.start (hb : h0[b]? = some (.cells #[.slice none 0 0] T (0, 0))) (x : Chg [] h0 h) (hs : h.size = h0.size + 2) : Coll e sz enc T h0 b ([] : List α) h :=
  ⟨none, 0, none, x.of hb (by simp), .nil, x.mono (by simp), by omega, fun g hg => by cases hg⟩
theorem CollAt.ext {a : Option Addr} {cap : Nat} {blk : Option Nat} (x : Chg [] h h') (y : CollAt e sz enc T h0 b l h a cap blk) : CollAt e sz enc T h0 b l h' a cap blk :=
  ⟨x.of y.cell (by simp), y.own.ext x, y.chg.trans (x.mono (by simp)), Nat.le_trans y.size x.size, y.new⟩
theorem CollAt.step {h1 h2 : Hp} {a a2 : Option Addr} {cap cap2 : Nat} {blk blk2 : Option Nat} {l2 : List α} (hb : b < h0.size) (y : CollAt e sz enc T h0 b l h a cap blk) (ho : OwnAt e sz enc h1 a2 cap2 l2 blk2) (hc : Chg blk.toList h h1)
    (hb2 : blk2 = blk ∨ ∃ g, blk2 = some g ∧ h.size ≤ g) (hU : Upd h1 h2 b (.cells #[.slice a2 l2.length cap2] T)) : CollAt e sz enc T h0 b l2 h2 a2 cap2 blk2 ∧ ∀ k o, k = h0.size ∨ k = h0.size + 1 → h[k]? = some o → h2[k]? = some o := by
  have hn2 : ∀ g, blk2 = some g → h0.size + 2 ≤ g := by
    intro g hg
    rcases hb2 with rfl | ⟨g', rfl, hg'⟩
    · exact y.new g hg
    · cases hg
      exact Nat.le_trans y.size hg'
  refine ⟨⟨hU.here, ho.wr hU (fun g hg => by have := hn2 g hg; omega), (y.chg.fresh hc fun k hk => .inr (by have := y.new k (by simpa using hk); omega)).trans (hU.chg (by simp)), by rw [hU.size]; exact Nat.le_trans y.size hc.size, hn2⟩, fun k o hk hx => ?_⟩
  exact hU.of (hc.of hx fun hm => by have := y.new k (by simpa using hm); omega) (by omega)
theorem CollAt.cell' {a : Option Addr} {cap : Nat} {blk : Option Nat} (hc : Chg blk.toList h h') (hT : T ≠ e) (y : CollAt e sz enc T h0 b l h a cap blk) : h'[b]? = some (.cells #[.slice a l.length cap] T (0, 0)) :=
  hc.of y.cell fun hm => y.own.ne y.cell hT b (by simpa using hm) rfl
end
end Go.Xe
namespace Go.Xe.CI
open Go Go.Proofs
set_option maxRecDepth 20000
variable {c : World}
def pr (x : Int × ClipR) : List Value := [Value.int .i64 x.1, vClip x.2]
theorem walk_c (M : List Nat) (l : Nat) (h0 : Hp) (J : Nat → Hp → Prop) (hJ : ∀ i h, J i h → Chg M h0 h) (t : Tr Int ClipR) : ∀ (p : Option Addr) (a : Nat) (h : Hp), At M h0 t p → J a h →
    (∀ i x h, t.toL[i]? = some x → J (a + i) h → Yield c Tryz.prog l (pr x).toArray h fun r h' => r = .bool true ∧ J (a + i + 1) h') →
    Call c Tryz.prog 111 #[.pointer p, .pointer none, .func (.yield l) #[] #[]] h fun r h' => r = .bool true ∧ J (a + t.size) h' := by
  induction t with
  | leaf =>
    intro p a h ht ha hy
    obtain rfl := ht
    refine call_of layOk 55 Tryz.func111 Tryz.ntmps111 rfl rfl rfl rfl ?_
    exact wp_brT rfl (wp_done ⟨rfl, rfl, ha⟩)
  | node tl k v tr ihl ihr =>
    intro p a h ht ha hy
    obtain ⟨b, ql, qr, rfl, hbM, hb, hl, hr⟩ := ht
    have hl0 := Tr.length_toL tl
    refine call_of layOk 55 Tryz.func111 Tryz.ntmps111 rfl rfl rfl rfl ?_
    refine wp_brF rfl ?_
    refine wp_ord layOk mixed [(0, 11)] [] (by kernel_rfl) ?_
    repeat refine wp_brF rfl ?_
    refine wp_ord layOk mixed [(0, 27)] [] (by kernel_rfl) ?_
    refine wp_load (ld_of ((hJ _ _ ha).of hb hbM) rfl) ?_
    refine wp_call (ihl ql a h hl ha fun i x h hx => hy i x h ?_) ?_
    · have hi := (List.getElem?_eq_some_iff.1 hx).1
      simp only [Tr.toL]
      rw [List.getElem?_append_left hi]
      exact hx
    rintro _ h2 ⟨rfl, ha2⟩
    have hb2 := (hJ _ _ ha2).of hb hbM
    repeat refine wp_brT rfl ?_
    refine wp_load (ld_of hb2 rfl) ?_
    repeat refine wp_brT rfl ?_
    refine wp_load (ld_of hb2 rfl) ?_
    repeat refine wp_brT rfl ?_
    refine wp_round (hy tl.size (k, v) h2 (by simp [Tr.toL, ← hl0]) ha2) ?_
    rintro _ h3 ⟨rfl, ha3⟩
    have hb3 := (hJ _ _ ha3).of hb hbM
    repeat refine wp_brT rfl ?_
    refine wp_load (ld_of hb3 rfl) ?_
    repeat refine wp_brT rfl ?_
    refine wp_call (ihr qr (a + tl.size + 1) h3 hr ha3 fun i x h hx hj => ?_) ?_
    · have := hy (tl.size + 1 + i) x h (by
        simp only [Tr.toL]
        rw [List.getElem?_append_right (by omega), hl0, show tl.size + 1 + i - tl.size = i + 1 from by omega]
        exact hx) (by rw [show a + (tl.size + 1 + i) = a + tl.size + 1 + i from by omega]; exact hj)
      rw [show a + (tl.size + 1 + i) + 1 = a + tl.size + 1 + i + 1 from by omega] at this
      exact this
    rintro _ h4 ⟨rfl, ha4⟩
    repeat refine wp_brT rfl ?_
    refine wp_done ⟨rfl, rfl, ?_⟩
    simp only [Tr.size]
    rw [show a + (tl.size + tr.size + 1) = a + tl.size + 1 + tr.size from by omega]
    exact ha4
theorem all_c (p : Option Addr) (h : Hp) : Call c Tryz.prog 73 #[.agg #[.pointer p]] h fun v h' => ∃ b, v = .func (.func 110) #[] #[.pointer (some ⟨b, 0, none⟩)] ∧ New h h' b (.cells #[.pointer p] 98) := by
  refine call_of layOk 4 Tryz.func73 Tryz.ntmps73 rfl rfl rfl rfl ?_
  refine wp_new ?_
  intro b h' hN
  exact wp_done ⟨rfl, b, rfl, hN⟩
theorem it_c (M : List Nat) (h0 : Hp) (xs : List (Int × ClipR)) (p : Option Addr) (bm : Nat) (hm : Mp M h0 p xs) (hb : h0[bm]? = some (.cells #[.pointer p] 98 (0, 0))) (hbM : bm ∉ M) (l : Nat) (J : Nat → Hp → Prop) (hJ : ∀ i h, J i h → Chg M h0 h) (h : Hp) (ha : J 0 h)
    (hy : ∀ i x h, (xs.map pr)[i]? = some x → J i h → Yield c Tryz.prog l x.toArray h fun r h' => r = .bool true ∧ J (i + 1) h') :
    Call c Tryz.prog 110 #[.func (.yield l) #[] #[], .pointer (some ⟨bm, 0, none⟩)] h fun _ h' => J (xs.map pr).length h' := by
  obtain ⟨t, ht, rfl, hs⟩ := hm
  refine call_of layOk 7 Tryz.func110 Tryz.ntmps110 rfl rfl rfl rfl ?_
  refine wp_load (ld_of ((hJ _ _ ha).of hb hbM) rfl) ?_
  refine wp_call (walk_c M l h0 J hJ t p 0 h ht ha fun i x h hx hj => ?_) ?_
  · have := hy i (pr x) h (by simp [hx]) (by rw [Nat.zero_add] at hj; exact hj)
    rw [Nat.zero_add]
    exact this
  rintro _ h4 ⟨rfl, ha4⟩
  refine wp_done ⟨rfl, ?_⟩
  rw [List.length_map, Tr.length_toL, ← Nat.zero_add t.size]
  exact ha4
end Go.Xe.CI
namespace Go.Xe.BI
open Go Go.Proofs
set_option maxRecDepth 20000
variable {c : World}
def pr (x : Int × Nat) : List Value := [Value.int .i64 x.1, vPtr x.2]
theorem walk_c (M : List Nat) (l : Nat) (h0 : Hp) (J : Nat → Hp → Prop) (hJ : ∀ i h, J i h → Chg M h0 h) (t : Tr Int Nat) : ∀ (p : Option Addr) (a : Nat) (h : Hp), At M h0 t p → J a h →
    (∀ i x h, t.toL[i]? = some x → J (a + i) h → Yield c Tryz.prog l (pr x).toArray h fun r h' => r = .bool true ∧ J (a + i + 1) h') →
    Call c Tryz.prog 103 #[.pointer p, .pointer none, .func (.yield l) #[] #[]] h fun r h' => r = .bool true ∧ J (a + t.size) h' := by
  induction t with
  | leaf =>
    intro p a h ht ha hy
    obtain rfl := ht
    refine call_of layOk 55 Tryz.func103 Tryz.ntmps103 rfl rfl rfl rfl ?_
    exact wp_brT rfl (wp_done ⟨rfl, rfl, ha⟩)
  | node tl k v tr ihl ihr =>
    intro p a h ht ha hy
    obtain ⟨b, ql, qr, rfl, hbM, hb, hl, hr⟩ := ht
    have hl0 := Tr.length_toL tl
    refine call_of layOk 55 Tryz.func103 Tryz.ntmps103 rfl rfl rfl rfl ?_
    refine wp_brF rfl ?_
    refine wp_ord layOk mixed [(0, 11)] [] (by kernel_rfl) ?_
    repeat refine wp_brF rfl ?_
    refine wp_ord layOk mixed [(0, 27)] [] (by kernel_rfl) ?_
    refine wp_load (ld_of ((hJ _ _ ha).of hb hbM) rfl) ?_
    refine wp_call (ihl ql a h hl ha fun i x h hx => hy i x h ?_) ?_
    · have hi := (List.getElem?_eq_some_iff.1 hx).1
      simp only [Tr.toL]
      rw [List.getElem?_append_left hi]
      exact hx
    rintro _ h2 ⟨rfl, ha2⟩
    have hb2 := (hJ _ _ ha2).of hb hbM
    repeat refine wp_brT rfl ?_
    refine wp_load (ld_of hb2 rfl) ?_
    repeat refine wp_brT rfl ?_
    refine wp_load (ld_of hb2 rfl) ?_
    repeat refine wp_brT rfl ?_
    refine wp_round (hy tl.size (k, v) h2 (by simp [Tr.toL, ← hl0]) ha2) ?_
    rintro _ h3 ⟨rfl, ha3⟩
    have hb3 := (hJ _ _ ha3).of hb hbM
    repeat refine wp_brT rfl ?_
    refine wp_load (ld_of hb3 rfl) ?_
    repeat refine wp_brT rfl ?_
    refine wp_call (ihr qr (a + tl.size + 1) h3 hr ha3 fun i x h hx hj => ?_) ?_
    · have := hy (tl.size + 1 + i) x h (by
        simp only [Tr.toL]
        rw [List.getElem?_append_right (by omega), hl0, show tl.size + 1 + i - tl.size = i + 1 from by omega]
        exact hx) (by rw [show a + (tl.size + 1 + i) = a + tl.size + 1 + i from by omega]; exact hj)
      rw [show a + (tl.size + 1 + i) + 1 = a + tl.size + 1 + i + 1 from by omega] at this
      exact this
    rintro _ h4 ⟨rfl, ha4⟩
    repeat refine wp_brT rfl ?_
    refine wp_done ⟨rfl, rfl, ?_⟩
    simp only [Tr.size]
    rw [show a + (tl.size + tr.size + 1) = a + tl.size + 1 + tr.size from by omega]
    exact ha4
theorem all_c (p : Option Addr) (h : Hp) : Call c Tryz.prog 63 #[.agg #[.pointer p]] h fun v h' => ∃ b, v = .func (.func 102) #[] #[.pointer (some ⟨b, 0, none⟩)] ∧ New h h' b (.cells #[.pointer p] 104) := by
  refine call_of layOk 4 Tryz.func63 Tryz.ntmps63 rfl rfl rfl rfl ?_
  refine wp_new ?_
  intro b h' hN
  exact wp_done ⟨rfl, b, rfl, hN⟩
theorem it_c (M : List Nat) (h0 : Hp) (xs : List (Int × Nat)) (p : Option Addr) (bm : Nat) (hm : Mp M h0 p xs) (hb : h0[bm]? = some (.cells #[.pointer p] 104 (0, 0))) (hbM : bm ∉ M) (l : Nat) (J : Nat → Hp → Prop) (hJ : ∀ i h, J i h → Chg M h0 h) (h : Hp) (ha : J 0 h)
    (hy : ∀ i x h, (xs.map pr)[i]? = some x → J i h → Yield c Tryz.prog l x.toArray h fun r h' => r = .bool true ∧ J (i + 1) h') :
    Call c Tryz.prog 102 #[.func (.yield l) #[] #[], .pointer (some ⟨bm, 0, none⟩)] h fun _ h' => J (xs.map pr).length h' := by
  obtain ⟨t, ht, rfl, hs⟩ := hm
  refine call_of layOk 7 Tryz.func102 Tryz.ntmps102 rfl rfl rfl rfl ?_
  refine wp_load (ld_of ((hJ _ _ ha).of hb hbM) rfl) ?_
  refine wp_call (walk_c M l h0 J hJ t p 0 h ht ha fun i x h hx hj => ?_) ?_
  · have := hy i (pr x) h (by simp [hx]) (by rw [Nat.zero_add] at hj; exact hj)
    rw [Nat.zero_add]
    exact this
  rintro _ h4 ⟨rfl, ha4⟩
  refine wp_done ⟨rfl, ?_⟩
  rw [List.length_map, Tr.length_toL, ← Nat.zero_add t.size]
  exact ha4
end Go.Xe.BI
namespace Go.Xe.SL
open Go Go.Proofs
set_option maxRecDepth 20000
variable {c : World}
def pr (x : ByteArray × Nat) : List Value := [Value.string x.1, vPtr x.2]
theorem walk_c (M : List Nat) (l : Nat) (h0 : Hp) (J : Nat → Hp → Prop) (hJ : ∀ i h, J i h → Chg M h0 h) (t : Tr ByteArray Nat) : ∀ (p : Option Addr) (a : Nat) (h : Hp), At M h0 t p → J a h →
    (∀ i x h, t.toL[i]? = some x → J (a + i) h → Yield c Tryz.prog l (pr x).toArray h fun r h' => r = .bool true ∧ J (a + i + 1) h') →
    Call c Tryz.prog 106 #[.pointer p, .pointer none, .func (.yield l) #[] #[]] h fun r h' => r = .bool true ∧ J (a + t.size) h' := by
  induction t with
  | leaf =>
    intro p a h ht ha hy
    obtain rfl := ht
    refine call_of layOk 55 Tryz.func106 Tryz.ntmps106 rfl rfl rfl rfl ?_
    exact wp_brT rfl (wp_done ⟨rfl, rfl, ha⟩)
  | node tl k v tr ihl ihr =>
    intro p a h ht ha hy
    obtain ⟨b, ql, qr, rfl, hbM, hb, hl, hr⟩ := ht
    have hl0 := Tr.length_toL tl
    refine call_of layOk 55 Tryz.func106 Tryz.ntmps106 rfl rfl rfl rfl ?_
    refine wp_brF rfl ?_
    refine wp_ord layOk mixed [(0, 11)] [] (by kernel_rfl) ?_
    repeat refine wp_brF rfl ?_
    refine wp_ord layOk mixed [(0, 27)] [] (by kernel_rfl) ?_
    refine wp_load (ld_of ((hJ _ _ ha).of hb hbM) rfl) ?_
    refine wp_call (ihl ql a h hl ha fun i x h hx => hy i x h ?_) ?_
    · have hi := (List.getElem?_eq_some_iff.1 hx).1
      simp only [Tr.toL]
      rw [List.getElem?_append_left hi]
      exact hx
    rintro _ h2 ⟨rfl, ha2⟩
    have hb2 := (hJ _ _ ha2).of hb hbM
    repeat refine wp_brT rfl ?_
    refine wp_load (ld_of hb2 rfl) ?_
    repeat refine wp_brT rfl ?_
    refine wp_load (ld_of hb2 rfl) ?_
    repeat refine wp_brT rfl ?_
    refine wp_round (hy tl.size (k, v) h2 (by simp [Tr.toL, ← hl0]) ha2) ?_
    rintro _ h3 ⟨rfl, ha3⟩
    have hb3 := (hJ _ _ ha3).of hb hbM
    repeat refine wp_brT rfl ?_
    refine wp_load (ld_of hb3 rfl) ?_
    repeat refine wp_brT rfl ?_
    refine wp_call (ihr qr (a + tl.size + 1) h3 hr ha3 fun i x h hx hj => ?_) ?_
    · have := hy (tl.size + 1 + i) x h (by
        simp only [Tr.toL]
        rw [List.getElem?_append_right (by omega), hl0, show tl.size + 1 + i - tl.size = i + 1 from by omega]
        exact hx) (by rw [show a + (tl.size + 1 + i) = a + tl.size + 1 + i from by omega]; exact hj)
      rw [show a + (tl.size + 1 + i) + 1 = a + tl.size + 1 + i + 1 from by omega] at this
      exact this
    rintro _ h4 ⟨rfl, ha4⟩
    repeat refine wp_brT rfl ?_
    refine wp_done ⟨rfl, rfl, ?_⟩
    simp only [Tr.size]
    rw [show a + (tl.size + tr.size + 1) = a + tl.size + 1 + tr.size from by omega]
    exact ha4
theorem all_c (p : Option Addr) (h : Hp) : Call c Tryz.prog 65 #[.agg #[.pointer p]] h fun v h' => ∃ b, v = .func (.func 105) #[] #[.pointer (some ⟨b, 0, none⟩)] ∧ New h h' b (.cells #[.pointer p] 107) := by
  refine call_of layOk 4 Tryz.func65 Tryz.ntmps65 rfl rfl rfl rfl ?_
  refine wp_new ?_
  intro b h' hN
  exact wp_done ⟨rfl, b, rfl, hN⟩
theorem it_c (M : List Nat) (h0 : Hp) (xs : List (ByteArray × Nat)) (p : Option Addr) (bm : Nat) (hm : Mp M h0 p xs) (hb : h0[bm]? = some (.cells #[.pointer p] 107 (0, 0))) (hbM : bm ∉ M) (l : Nat) (J : Nat → Hp → Prop) (hJ : ∀ i h, J i h → Chg M h0 h) (h : Hp) (ha : J 0 h)
    (hy : ∀ i x h, (xs.map pr)[i]? = some x → J i h → Yield c Tryz.prog l x.toArray h fun r h' => r = .bool true ∧ J (i + 1) h') :
    Call c Tryz.prog 105 #[.func (.yield l) #[] #[], .pointer (some ⟨bm, 0, none⟩)] h fun _ h' => J (xs.map pr).length h' := by
  obtain ⟨t, ht, rfl, hs⟩ := hm
  refine call_of layOk 7 Tryz.func105 Tryz.ntmps105 rfl rfl rfl rfl ?_
  refine wp_load (ld_of ((hJ _ _ ha).of hb hbM) rfl) ?_
  refine wp_call (walk_c M l h0 J hJ t p 0 h ht ha fun i x h hx hj => ?_) ?_
  · have := hy i (pr x) h (by simp [hx]) (by rw [Nat.zero_add] at hj; exact hj)
    rw [Nat.zero_add]
    exact this
  rintro _ h4 ⟨rfl, ha4⟩
  refine wp_done ⟨rfl, ?_⟩
  rw [List.length_map, Tr.length_toL, ← Nat.zero_add t.size]
  exact ha4
end Go.Xe.SL
namespace Go.Xe
open Go Go.Proofs
set_option maxRecDepth 20000
variable {c : World}
theorem enClip : EncOk ti150 elClip := ⟨fun _ => rfl, by decide, rfl, fun x u hu => by
  simp only [elClip, List.mem_cons, List.not_mem_nil, or_false] at hu
  rcases hu with rfl | rfl | rfl <;> rfl, by decide⟩
abbrev ClipsOwn (h : Hp) (a : Option Addr) (cap : Nat) (l : List ClipR) (blk : Option Nat) := OwnAt 150 3 elClip h a cap l blk
theorem all2.at {K β γ : Type} {R : β → γ → Prop} : ∀ {ys : List (K × β)} {bs : List (K × γ)} (i : Nat) (y : K × β), all2 R ys bs → ys[i]? = some y → ∃ z, bs[i]? = some z ∧ y.1 = z.1 ∧ R y.2 z.2
  | [], [], i, y, _, h => by simp at h
  | (a, b) :: ys, (a', c) :: bs, 0, y, ⟨h1, h2, _⟩, h => by cases h; exact ⟨_, rfl, h1, h2⟩
  | (a, b) :: ys, (a', c) :: bs, i + 1, y, ⟨_, _, h3⟩, h => all2.at i y h3 h
/-- bales in memory of their own -/
def OwnAll (n : Nat) (h : Hp) (L : List (BaleR × BalP)) : Prop := ∀ x, x ∈ L → ∃ bp bf, PartsOwn h x.2.pa x.2.pc x.1.parts bp ∧ IntsOwn h x.2.fa x.2.fc x.1.from_ bf ∧ (∀ g, bp = some g → n ≤ g) ∧ ∀ g, bf = some g → n ≤ g
abbrev LotP := LotR × Option Addr × Nat
def encLot (x : LotP) : List Value := elLot x.1 x.2.1 x.2.2
theorem enLot : EncOk ti36 encLot := ⟨fun _ => rfl, by decide, rfl, fun x u hu => by
  simp only [encLot, elLot, List.mem_cons, List.not_mem_nil, or_false] at hu
  rcases hu with rfl | rfl | rfl <;> rfl, by decide⟩
abbrev LotsOwn (h : Hp) (a : Option Addr) (cap : Nat) (l : List LotP) (blk : Option Nat) := OwnAt 36 3 encLot h a cap l blk
def OwnLots (n : Nat) (h : Hp) (L : List LotP) : Prop := ∀ x, x ∈ L → ∃ b, IntsOwn h x.2.1 x.2.2 x.1.bales b ∧ ∀ g, b = some g → n ≤ g
theorem clips_c (M : List Nat) (h : Hp) (a : Option Addr) (p : StP) (ok : Bool) (σ : StateR) (hM : Bd M h) (y : VwIs h a p ok) (hσ : StOk M h p σ) (hz : σ.clips.length < 800000) :
    Call c Tryz.prog 33 #[.pointer a] h fun v h' => Chg [] h h' ∧ ∃ a' cap' blk', v = .slice a' σ.clips.length cap' ∧ ClipsOwn h' a' cap' (σ.clips.map Prod.snd) blk' ∧ Fresh h blk' := by
  refine call_ofM layOk 17 Tryz.func33 Tryz.ntmps33 rfl rfl rfl ?_
  refine wp_new ?_
  intro b3 h1 hN
  have hc1 := hN.chg []
  refine wp_call (state_c h1 a p ok (y.ext hc1)) ?_
  rintro _ h2 ⟨rfl, hc2⟩
  refine wp_call (CI.all_c p.c h2) ?_
  rintro _ h3 ⟨bA, rfl, hN3⟩
  have hc13 := hc2.trans (hN3.chg [])
  have hc03 := hc1.trans hc13
  have hb3 := hc13.of hN.here (by simp)
  have hb3lt := (Array.getElem?_eq_some_iff.1 hb3).1
  have hm3 : CI.Mp (b3 :: M) h3 p.c σ.clips := (hσ.push hN.le).clips.ext hc03
  have hA : bA ∉ b3 :: M := fun hm => by
    have h9 := hN3.le
    rcases List.mem_cons.1 hm with hm | hm
    · have := (Array.getElem?_eq_some_iff.1 (hc2.of hN.here (by simp))).1
      omega
    · have := hM bA hm
      have := hc1.size
      have := hc2.size
      omega
  refine wp_rangeF (gf := 110) (cap := #[.pointer (some ⟨bA, 0, none⟩)]) layOk rfl rfl (σ.clips.map CI.pr) (fun x hx => by
      obtain ⟨v, _, rfl⟩ := List.mem_map.1 hx
      rfl)
    (fun i h' => Coll 150 3 elClip 64 h3 b3 ((σ.clips.map Prod.snd).take i) h') (fun i ha hb o x hU => x.upd hb3lt (.inr rfl) hU) (fun h4 hc4 hs4 => Coll.start hb3 hc4 hs4) ?_ ?_ ?_
  · intro J h4 hc4 hJI hyl hJ0
    refine CI.it_c (b3 :: M) h3 σ.clips p.c bA hm3 hN3.here hA (h4.size - 1) J (fun i h' hj => ?_) h4 hJ0 hyl
    obtain ⟨_, _, _, z⟩ := hJI i h' hj
    exact z.chg.mono (fun k hk => by rw [List.mem_singleton] at hk; simp [hk])
  · rintro i x h4 d hx ⟨a3, cap3, blk3, z⟩ hld hdf
    rw [List.getElem?_map] at hx
    obtain ⟨e, he, rfl⟩ := Option.map_eq_some_iff.1 hx
    have hce : (σ.clips.map Prod.snd)[i]? = some e.2 := by rw [List.getElem?_map, he]; rfl
    have hi := (List.getElem?_eq_some_iff.1 he).1
    have htk : (σ.clips.map Prod.snd).take (i + 1) = (σ.clips.map Prod.snd).take i ++ [e.2] := by rw [List.take_add_one, hce]; rfl
    refine wp_new ?_
    intro b5 h5 hN5
    refine wp_store hN5.here (by rfl) ?_
    intro h6 hU6
    have hc46 : Chg [] h4 h6 := hU6.chgGe (hN5.chg []) hN5.le
    have hs4 := z.size
    have hl5 := hN5.le
    refine wp_done ⟨rfl, rfl, hc46.same _ (by omega) (by simp), fun h7 d' hU7 => ?_⟩
    have z7 := (z.ext hc46).upd hb3lt (.inr rfl) hU7
    have hb57 := hU7.of hU6.here (by omega)
    refine wp_load (ld_of z7.cell rfl) ?_
    refine wp_load (v := vClip e.2) (ld_of hb57 rfl) ?_
    refine wp_new ?_
    intro b8 h8 hN8
    have z8 := z7.ext (hN8.chg [])
    refine wp_append layOk (t := 64) rfl rfl rfl (i := ti150) enClip rfl rfl rfl z8.own (M := []) (l' := [e.2]) (.inr ⟨b8, 0, _, rfl, by simp, hN8.here, Nat.le_refl _, Nat.le_refl _, rfl⟩) (by rw [List.length_take, List.length_map, List.length_singleton]; omega) (by simp) ?_
    intro h9 a9 cap9 blk9 ho9 hc9 hb9
    rw [← htk] at ho9 ⊢
    refine wp_store (z8.cell' hc9 (by decide)) (by rfl) ?_
    intro h10 hU10
    obtain ⟨zf, keep⟩ := z8.step hb3lt ho9 hc9 hb9 hU10
    have hdf7 : h7[h3.size]? = some (.deferred (some [])) := hU7.of (hc46.of hdf (by simp)) (by omega)
    refine wp_done ⟨rfl, ⟨a9, cap9, blk9, zf⟩, ?_, keep _ _ (.inl rfl) (hN8.of hdf7)⟩
    have h77 : h7[h3.size + 1]? = some (.loop d') := hU7.here
    rw [h77]
    exact keep _ _ (.inr rfl) (hN8.of h77)
  · rintro h4 ⟨a3, cap3, blk3, z⟩ hdf
    have z' := z
    rw [List.length_map] at z
    have el : (σ.clips.map Prod.snd).take σ.clips.length = σ.clips.map Prod.snd := List.take_of_length_le (by rw [List.length_map]; exact Nat.le_refl _)
    rw [el] at z
    refine wp_load (ld_of z.cell rfl) ?_
    refine wp_done (finM_mark h3.size rfl hdf fun h5 hU5 => ?_)
    have z5 := z.upd hb3lt (.inl rfl) hU5
    refine ⟨[.slice a3 (σ.clips.map Prod.snd).length cap3], ⟨rfl, trivial⟩, ?_, a3, cap3, blk3, by rw [List.length_map]; rfl, z5.own, fun g hg => ?_⟩
    · exact hc03.fresh z5.chg (fun k hk => .inr (by rw [List.mem_singleton] at hk; rw [hk]; exact hN.le))
    · have := z5.new g hg
      have := hc03.size
      omega
theorem bales_c (M : List Nat) (h : Hp) (a : Option Addr) (p : StP) (ok : Bool) (σ : StateR) (hM : Bd M h) (y : VwIs h a p ok) (hσ : StOk M h p σ) (hz : σ.bales.length < 800000) (hb : ∀ x, x ∈ σ.bales → x.2.parts.length < 900000 ∧ x.2.from_.length < 900000) :
    Call c Tryz.prog 19 #[.pointer a] h fun v h' => Chg [] h h' ∧ ∃ a' cap' blk' L, v = .slice a' L.length cap' ∧ L.map Prod.fst = σ.bales.map Prod.snd ∧ BalesOwn h' a' cap' L blk' ∧ Fresh h blk' ∧ OwnAll h.size h' L := by
  obtain ⟨ys, hm, ha⟩ := (hσ : StOk M h p σ).bales
  have hyl := ha.len
  refine call_ofM layOk 18 Tryz.func19 Tryz.ntmps19 rfl rfl rfl ?_
  refine wp_new ?_
  intro b3 h1 hN
  have hc1 := hN.chg []
  refine wp_call (state_c h1 a p ok (y.ext hc1)) ?_
  rintro _ h2 ⟨rfl, hc2⟩
  refine wp_call (BI.all_c p.b h2) ?_
  rintro _ h3 ⟨bA, rfl, hN3⟩
  have hc13 := hc2.trans (hN3.chg [])
  have hc03 := hc1.trans hc13
  have hb3 := hc13.of hN.here (by simp)
  have hb3lt := (Array.getElem?_eq_some_iff.1 hb3).1
  have hm3 : BI.Mp (b3 :: M) h3 p.b ys := (hm.push hN.le).ext hc03
  have ha3 : all2 (BaleAt (b3 :: M) h3) ys σ.bales := (ha.mono fun _ _ z => z.push hN.le).mono fun _ _ z => z.chg hc03 (by simp)
  have hA : bA ∉ b3 :: M := fun hm => by
    have h9 := hN3.le
    rcases List.mem_cons.1 hm with hm | hm
    · have := (Array.getElem?_eq_some_iff.1 (hc2.of hN.here (by simp))).1
      omega
    · have := hM bA hm
      have := hc1.size
      have := hc2.size
      omega
  refine wp_rangeF (gf := 102) (cap := #[.pointer (some ⟨bA, 0, none⟩)]) layOk rfl rfl (ys.map BI.pr) (fun x hx => by
      obtain ⟨v, _, rfl⟩ := List.mem_map.1 hx
      rfl)
    (fun i h' => ∃ L : List (BaleR × BalP), L.map Prod.fst = (σ.bales.map Prod.snd).take i ∧ Coll 42 10 encBale 29 h3 b3 L h' ∧ OwnAll (h3.size + 2) h' L)
    (fun i ha hb o ⟨L, x1, x, x3⟩ hU => ⟨L, x1, x.upd hb3lt (.inr rfl) hU, fun z hz => by
      obtain ⟨bp, bf, g1, g2, g3, g4⟩ := x3 z hz
      exact ⟨bp, bf, g1.wr hU (fun g hg => by have := g3 g hg; omega), g2.wr hU (fun g hg => by have := g4 g hg; omega), g3, g4⟩⟩) (fun h4 hc4 hs4 => ⟨[], rfl, Coll.start hb3 hc4 hs4, fun _ h => by cases h⟩) ?_ ?_ ?_
  · intro J h4 hc4 hJI hyl hJ0
    refine BI.it_c (b3 :: M) h3 ys p.b bA hm3 hN3.here hA (h4.size - 1) J (fun i h' hj => ?_) h4 hJ0 hyl
    obtain ⟨_, _, ⟨_, _, _, z⟩, _⟩ := hJI i h' hj
    exact z.chg.mono (fun k hk => by rw [List.mem_singleton] at hk; simp [hk])
  · rintro i x h4 d hx ⟨L, hLm, ⟨a3, cap3, blk3, z⟩, hLo⟩ hld hdf
    rw [List.getElem?_map] at hx
    obtain ⟨e, he, rfl⟩ := Option.map_eq_some_iff.1 hx
    obtain ⟨w, hwe, hwk, hwb⟩ := ha3.at i e he
    have hwz := hb w (List.mem_of_getElem? hwe)
    have hce : (σ.bales.map Prod.snd)[i]? = some w.2 := by rw [List.getElem?_map, hwe]; rfl
    have hi := (List.getElem?_eq_some_iff.1 hwe).1
    have htk : (σ.bales.map Prod.snd).take (i + 1) = (σ.bales.map Prod.snd).take i ++ [w.2] := by rw [List.take_add_one, hce]; rfl
    have hLl : L.length ≤ i := by
      have := congrArg List.length hLm
      rw [List.length_map, List.length_take] at this
      omega
    refine wp_done ⟨rfl, rfl, rfl, fun h7 d' hU7 => ?_⟩
    have hs4 := z.size
    have z7 := z.upd hb3lt (.inr rfl) hU7
    have hLo7 : OwnAll (h3.size + 2) h7 L := fun v hv => by
      obtain ⟨bp, bf, g1, g2, g3, g4⟩ := hLo v hv
      exact ⟨bp, bf, g1.wr hU7 (fun g hg => by have := g3 g hg; omega), g2.wr hU7 (fun g hg => by have := g4 g hg; omega), g3, g4⟩
    have hwb7 : BaleAt (b3 :: M) h7 e.2 w.2 := hwb.chg z7.chg (fun k hk => by rw [List.mem_singleton] at hk; simp [hk])
    have hdf7 : h7[h3.size]? = some (.deferred (some [])) := hU7.of hdf (by omega)
    have h77 : h7[h3.size + 1]? = some (.loop d') := hU7.here
    refine wp_ord layOk mixed [(0, 5)] [2, 3] (by kernel_rfl) ?_
    refine wp_load (ld_of z7.cell rfl) ?_
    refine wp_callE (own_c (b3 :: M) h7 e.2 w.2 hwb7 hwz.1 hwz.2) ?_
    rintro _ h8 ⟨⟨q, bp, bf, rfl, go1, go2, go3, go4⟩, hc8⟩
    refine ⟨hc8, ?_⟩
    refine wp_new ?_
    intro b8 h9 hN9
    have hc79 := hc8.trans (hN9.chg [])
    have z9 := z7.ext hc79
    refine wp_append layOk (t := 29) rfl rfl rfl (i := ti42) enBale rfl rfl rfl z9.own (M := []) (l' := [(w.2, q)]) (.inr ⟨b8, 0, _, rfl, by simp, hN9.here, Nat.le_refl _, Nat.le_refl _, rfl⟩) (by rw [List.length_singleton]; omega) (fun e => by cases e) ?_
    intro h10 a10 cap10 blk10 ho10 hc10 hb10
    refine wp_store (z9.cell' hc10 (by decide)) (by rfl) ?_
    intro h11 hU11
    obtain ⟨zf, keep⟩ := z9.step hb3lt ho10 hc10 hb10 hU11
    have hs7 := z7.size
    refine wp_done ⟨rfl, ⟨L ++ [(w.2, q)], by rw [List.map_append, hLm, htk]; rfl, ⟨a10, cap10, blk10, zf⟩, fun v hv => ?_⟩, ?_, keep _ _ (.inl rfl) (hc79.of hdf7 (by simp))⟩
    · have hv9 : ∃ bp bf, PartsOwn h9 v.2.pa v.2.pc v.1.parts bp ∧ IntsOwn h9 v.2.fa v.2.fc v.1.from_ bf ∧ (∀ g, bp = some g → h3.size + 2 ≤ g) ∧ ∀ g, bf = some g → h3.size + 2 ≤ g := by
        rcases List.mem_append.1 hv with hv | hv
        · obtain ⟨bp, bf, g1, g2, g3, g4⟩ := hLo7 v hv
          exact ⟨bp, bf, g1.ext hc79, g2.ext hc79, g3, g4⟩
        · rw [List.mem_singleton] at hv
          subst hv
          exact ⟨bp, bf, go1.ext (hN9.chg []), go2.ext (hN9.chg []), fun g hg => Nat.le_trans hs7 (go3 g hg), fun g hg => Nat.le_trans hs7 (go4 g hg)⟩
      obtain ⟨bp, bf, g1, g2, g3, g4⟩ := hv9
      exact ⟨bp, bf, (OwnAt.apart hc10 z9.own (by decide) g1).wr hU11 (fun g hg => by have := g3 g hg; omega), (OwnAt.apart hc10 z9.own (by decide) g2).wr hU11 (fun g hg => by have := g4 g hg; omega), g3, g4⟩
    · rw [h77]
      exact keep _ _ (.inr rfl) (hc79.of h77 (by simp))
  · rintro h4 ⟨L, hLm, ⟨a3, cap3, blk3, z⟩, hLo⟩ hdf
    have hLm' : L.map Prod.fst = σ.bales.map Prod.snd := by
      rw [hLm, List.length_map, hyl]
      exact List.take_of_length_le (by rw [List.length_map]; exact Nat.le_refl _)
    refine wp_load (ld_of z.cell rfl) ?_
    refine wp_done (finM_mark h3.size rfl hdf fun h5 hU5 => ?_)
    have z5 := z.upd hb3lt (.inl rfl) hU5
    have hle : h.size ≤ h3.size + 2 := Nat.le_trans hc03.size (Nat.le_add_right _ _)
    refine ⟨[.slice a3 L.length cap3], ⟨rfl, trivial⟩, ?_, a3, cap3, blk3, L, rfl, hLm', z5.own, fun g hg => Nat.le_trans hle (z5.new g hg), fun v hv => ?_⟩
    · exact hc03.fresh z5.chg (fun k hk => .inr (by rw [List.mem_singleton] at hk; rw [hk]; exact hN.le))
    · obtain ⟨bp, bf, g1, g2, g3, g4⟩ := hLo v hv
      exact ⟨bp, bf, g1.wr hU5 (fun g hg => by have := g3 g hg; omega), g2.wr hU5 (fun g hg => by have := g4 g hg; omega), fun g hg => Nat.le_trans hle (g3 g hg), fun g hg => Nat.le_trans hle (g4 g hg)⟩
theorem lots_c (M : List Nat) (h : Hp) (a : Option Addr) (p : StP) (ok : Bool) (σ : StateR) (hM : Bd M h) (y : VwIs h a p ok) (hσ : StOk M h p σ) (hz : σ.lots.length < 800000) (hb : ∀ x, x ∈ σ.lots → x.2.bales.length < 900000) :
    Call c Tryz.prog 20 #[.pointer a] h fun v h' => Chg [] h h' ∧ ∃ a' cap' blk' L, v = .slice a' L.length cap' ∧ L.map Prod.fst = σ.lots.map Prod.snd ∧ LotsOwn h' a' cap' L blk' ∧ Fresh h blk' ∧ OwnLots h.size h' L := by
  obtain ⟨ys, hm, ha⟩ := (hσ : StOk M h p σ).lots
  have hyl := ha.len
  refine call_ofM layOk 30 Tryz.func20 Tryz.ntmps20 rfl rfl rfl ?_
  refine wp_new ?_
  intro b3 h1 hN
  have hc1 := hN.chg []
  refine wp_call (state_c h1 a p ok (y.ext hc1)) ?_
  rintro _ h2 ⟨rfl, hc2⟩
  refine wp_call (SL.all_c p.l h2) ?_
  rintro _ h3 ⟨bA, rfl, hN3⟩
  have hc13 := hc2.trans (hN3.chg [])
  have hc03 := hc1.trans hc13
  have hb3 := hc13.of hN.here (by simp)
  have hb3lt := (Array.getElem?_eq_some_iff.1 hb3).1
  have hm3 : SL.Mp (b3 :: M) h3 p.l ys := (hm.push hN.le).ext hc03
  have ha3 : all2 (LotAt (b3 :: M) h3) ys σ.lots := (ha.mono fun _ _ z => z.push hN.le).mono fun _ _ z => z.chg hc03 (by simp)
  have hA : bA ∉ b3 :: M := fun hm => by
    have h9 := hN3.le
    rcases List.mem_cons.1 hm with hm | hm
    · have := (Array.getElem?_eq_some_iff.1 (hc2.of hN.here (by simp))).1
      omega
    · have := hM bA hm
      have := hc1.size
      have := hc2.size
      omega
  refine wp_rangeF (gf := 105) (cap := #[.pointer (some ⟨bA, 0, none⟩)]) layOk rfl rfl (ys.map SL.pr) (fun x hx => by
      obtain ⟨v, _, rfl⟩ := List.mem_map.1 hx
      rfl)
    (fun i h' => ∃ L : List LotP, L.map Prod.fst = (σ.lots.map Prod.snd).take i ∧ Coll 36 3 encLot 32 h3 b3 L h' ∧ OwnLots (h3.size + 2) h' L)
    (fun i ha hb o ⟨L, x1, x, x3⟩ hU => ⟨L, x1, x.upd hb3lt (.inr rfl) hU, fun z hz => by
      obtain ⟨bp, g1, g3⟩ := x3 z hz
      exact ⟨bp, g1.wr hU (fun g hg => by have := g3 g hg; omega), g3⟩⟩) (fun h4 hc4 hs4 => ⟨[], rfl, Coll.start hb3 hc4 hs4, fun _ h => by cases h⟩) ?_ ?_ ?_
  · intro J h4 hc4 hJI hyl hJ0
    refine SL.it_c (b3 :: M) h3 ys p.l bA hm3 hN3.here hA (h4.size - 1) J (fun i h' hj => ?_) h4 hJ0 hyl
    obtain ⟨_, _, ⟨_, _, _, z⟩, _⟩ := hJI i h' hj
    exact z.chg.mono (fun k hk => by rw [List.mem_singleton] at hk; simp [hk])
  · rintro i x h4 d hx ⟨L, hLm, ⟨a3, cap3, blk3, z⟩, hLo⟩ hld hdf
    rw [List.getElem?_map] at hx
    obtain ⟨e, he, rfl⟩ := Option.map_eq_some_iff.1 hx
    obtain ⟨w, hwe, hwk, hwb⟩ := ha3.at i e he
    have hwz := hb w (List.mem_of_getElem? hwe)
    have hce : (σ.lots.map Prod.snd)[i]? = some w.2 := by rw [List.getElem?_map, hwe]; rfl
    have hi := (List.getElem?_eq_some_iff.1 hwe).1
    have htk : (σ.lots.map Prod.snd).take (i + 1) = (σ.lots.map Prod.snd).take i ++ [w.2] := by rw [List.take_add_one, hce]; rfl
    have hLl : L.length ≤ i := by
      have := congrArg List.length hLm
      rw [List.length_map, List.length_take] at this
      omega
    refine wp_done ⟨rfl, rfl, rfl, fun h7 d' hU7 => ?_⟩
    have hs4 := z.size
    have z7 := z.upd hb3lt (.inr rfl) hU7
    have hLo7 : OwnLots (h3.size + 2) h7 L := fun v hv => by
      obtain ⟨bp, g1, g3⟩ := hLo v hv
      exact ⟨bp, g1.wr hU7 (fun g hg => by have := g3 g hg; omega), g3⟩
    have hwb7 : LotAt (b3 :: M) h7 e.2 w.2 := hwb.chg z7.chg (fun k hk => by rw [List.mem_singleton] at hk; simp [hk])
    have hdf7 : h7[h3.size]? = some (.deferred (some [])) := hU7.of hdf (by omega)
    have h77 : h7[h3.size + 1]? = some (.loop d') := hU7.here
    obtain ⟨al, capl, hbM, hbb, hl⟩ := hwb7
    refine wp_ord layOk mixed [(0, 8), (10, 13), (9, 9), (14, 17)] [9, 15] (by kernel_rfl) ?_
    refine wp_load (ld_of z7.cell rfl) ?_
    refine wp_load (v := .string w.2.name) (ld_of hbb rfl) ?_
    refine wp_load (v := .slice al w.2.bales.length capl) (ld_of hbb rfl) ?_
    refine wp_load (v := .bool w.2.sent) (ld_of hbb rfl) ?_
    refine wp_callE (clone66_c (b3 :: M) w.2.bales al capl h7 hl hwz) ?_
    rintro _ h8 ⟨a8, cap8, bp, rfl, go1, hc8, go3⟩
    refine ⟨hc8, ?_⟩
    refine wp_new ?_
    intro b8 h9 hN9
    have hc79 := hc8.trans (hN9.chg [])
    have z9 := z7.ext hc79
    refine wp_append layOk (t := 32) rfl rfl rfl (i := ti36) enLot rfl rfl rfl z9.own (M := []) (l' := [(w.2, a8, cap8)]) (.inr ⟨b8, 0, _, rfl, by simp, hN9.here, Nat.le_refl _, Nat.le_refl _, rfl⟩) (by rw [List.length_singleton]; omega) (fun e => by cases e) ?_
    intro h10 a10 cap10 blk10 ho10 hc10 hb10
    refine wp_store (z9.cell' hc10 (by decide)) (by rfl) ?_
    intro h11 hU11
    obtain ⟨zf, keep⟩ := z9.step hb3lt ho10 hc10 hb10 hU11
    have hs7 := z7.size
    refine wp_done ⟨rfl, ⟨L ++ [(w.2, a8, cap8)], by rw [List.map_append, hLm, htk]; rfl, ⟨a10, cap10, blk10, zf⟩, fun v hv => ?_⟩, ?_, keep _ _ (.inl rfl) (hc79.of hdf7 (by simp))⟩
    · have hv9 : ∃ bp, IntsOwn h9 v.2.1 v.2.2 v.1.bales bp ∧ ∀ g, bp = some g → h3.size + 2 ≤ g := by
        rcases List.mem_append.1 hv with hv | hv
        · obtain ⟨bp, g1, g3⟩ := hLo7 v hv
          exact ⟨bp, g1.ext hc79, g3⟩
        · rw [List.mem_singleton] at hv
          subst hv
          exact ⟨bp, go1.ext (hN9.chg []), fun g hg => Nat.le_trans hs7 (go3 g hg)⟩
      obtain ⟨bp, g1, g3⟩ := hv9
      exact ⟨bp, (OwnAt.apart hc10 z9.own (by decide) g1).wr hU11 (fun g hg => by have := g3 g hg; omega), g3⟩
    · rw [h77]
      exact keep _ _ (.inr rfl) (hc79.of h77 (by simp))
  · rintro h4 ⟨L, hLm, ⟨a3, cap3, blk3, z⟩, hLo⟩ hdf
    have hLm' : L.map Prod.fst = σ.lots.map Prod.snd := by
      rw [hLm, List.length_map, hyl]
      exact List.take_of_length_le (by rw [List.length_map]; exact Nat.le_refl _)
    refine wp_load (ld_of z.cell rfl) ?_
    refine wp_done (finM_mark h3.size rfl hdf fun h5 hU5 => ?_)
    have z5 := z.upd hb3lt (.inl rfl) hU5
    have hle : h.size ≤ h3.size + 2 := Nat.le_trans hc03.size (Nat.le_add_right _ _)
    refine ⟨[.slice a3 L.length cap3], ⟨rfl, trivial⟩, ?_, a3, cap3, blk3, L, rfl, hLm', z5.own, fun g hg => Nat.le_trans hle (z5.new g hg), fun v hv => ?_⟩
    · exact hc03.fresh z5.chg (fun k hk => .inr (by rw [List.mem_singleton] at hk; rw [hk]; exact hN.le))
    · obtain ⟨bp, g1, g3⟩ := hLo v hv
      exact ⟨bp, g1.wr hU5 (fun g hg => by have := g3 g hg; omega), fun g hg => Nat.le_trans hle (g3 g hg)⟩
end Go.Xe
