/- Do. -/
import Derived.Test.YtebbgoklldmkiaaGreatQ40
namespace Go.Xe
open Go Go.Proofs
set_option maxRecDepth 20000
variable {c : World}
/-- the function of a move -/
def chF (what : Int) : Option Nat :=
  if what = 1 then some 112 else if what = 2 then some 113 else if what = 3 then some 114 else if what = 4 then some 115 else if what = 5 then some 116 else if what = 6 then some 117
  else if what = 7 then some 118 else if what = 8 then some 119 else if what = 9 then some 120 else if what = 10 then some 121 else if what = 11 then some 122 else if what = 12 then some 123 else none
theorem chF_get (w : Int) : getA w chL = (chF w).map fnV := by
  simp only [chL, getA, chF, apply_ite (Option.map fnV), Option.map_some, Option.map_none]
def nowS (S : StoreR) : StateR := S.states.getD S.now ⟨[], [], [], [], []⟩
def doF (S : StoreR) (m : MoveR) : Int × Int × StoreR :=
  let r := stepF (nowS S) m
  if r.2.1 ≠ 0 then (0, r.2.1, S)
  else if 2048 ≤ S.now then (0, 9, S)
  else (r.1, 0, ⟨S.states.take (S.now + 1) ++ [r.2.2], S.moves.take S.now ++ [plainF m], S.now + 1⟩)
theorem stepF_none {σ : StateR} {m : MoveR} (h : chF m.what = none) : stepF σ m = (0, 2, σ) := by
  unfold chF at h
  by_cases h1 : m.what = 1
  · rw [if_pos h1] at h; cases h
  rw [if_neg h1] at h
  by_cases h2 : m.what = 2
  · rw [if_pos h2] at h; cases h
  rw [if_neg h2] at h
  by_cases h3 : m.what = 3
  · rw [if_pos h3] at h; cases h
  rw [if_neg h3] at h
  by_cases h4 : m.what = 4
  · rw [if_pos h4] at h; cases h
  rw [if_neg h4] at h
  by_cases h5 : m.what = 5
  · rw [if_pos h5] at h; cases h
  rw [if_neg h5] at h
  by_cases h6 : m.what = 6
  · rw [if_pos h6] at h; cases h
  rw [if_neg h6] at h
  by_cases h7 : m.what = 7
  · rw [if_pos h7] at h; cases h
  rw [if_neg h7] at h
  by_cases h8 : m.what = 8
  · rw [if_pos h8] at h; cases h
  rw [if_neg h8] at h
  by_cases h9 : m.what = 9
  · rw [if_pos h9] at h; cases h
  rw [if_neg h9] at h
  by_cases h10 : m.what = 10
  · rw [if_pos h10] at h; cases h
  rw [if_neg h10] at h
  by_cases h11 : m.what = 11
  · rw [if_pos h11] at h; cases h
  rw [if_neg h11] at h
  by_cases h12 : m.what = 12
  · rw [if_pos h12] at h; cases h
  rw [if_neg h12] at h
  unfold stepF
  rw [if_neg h1, if_neg h2, if_neg h3, if_neg h4, if_neg h5, if_neg h6, if_neg h7, if_neg h8, if_neg h9, if_neg h10, if_neg h11, if_neg h12]
theorem nowS_get {S : StoreR} (h : S.now < S.states.length) : S.states[S.now]? = some (nowS S) := by
  unfold nowS
  rw [List.getD_eq_getElem?_getD, List.getElem?_eq_getElem h]
  rfl
/-- what a change does to a store in memory -/
def DoOk (x : StoP) (M : List Nat) (h : Hp) (st : Nat) (r : Int × Int × StoreR) (v : Value) (h' : Hp) : Prop :=
  v = .tuple #[.int .i64 r.1, .int .i64 r.2.1] ∧ ∃ x' N, StoreAt x' (N ++ M) h' st r.2.2 ∧ Bd (N ++ M) h' ∧ Chg (x.foot st) h h' ∧ (∀ k, k ∈ x'.foot st → k ∈ x.foot st ∨ h.size ≤ k) ∧ ∀ k, k ∈ N → h.size ≤ k
theorem StoreAt.same {x : StoP} {M : List Nat} {h h' : Hp} {st : Nat} {S : StoreR} {n e : Int} {r : Int × Int × StoreR} (y : StoreAt x M h st S) (hM : Bd M h) (hc : Chg [] h h') (hr : r = (n, e, S)) : DoOk x M h st r (.tuple #[.int .i64 n, .int .i64 e]) h' := by
  rw [hr]
  exact ⟨rfl, x, [], y.ext hc, hM.chg hc, hc.mono (by simp), fun k hk => .inl hk, fun k hk => by cases hk⟩
theorem StOk.pushL {M : List Nat} {h : Hp} {p : StP} {σ : StateR} (y : StOk M h p σ) : ∀ N : List Nat, (∀ k, k ∈ N → h.size ≤ k) → StOk (N ++ M) h p σ
  | [], _ => y
  | b :: N, hN => (StOk.pushL y N fun k hk => hN k (List.mem_cons_of_mem _ hk)).push (hN b (List.mem_cons_self ..))
theorem SlAt.pushL {α : Type} {e sz : Nat} {enc : α → List Value} {M : List Nat} {h : Hp} {a : Option Addr} {cap : Nat} {l : List α} (y : SlAt e sz enc M h a cap l) : ∀ N : List Nat, (∀ k, k ∈ N → h.size ≤ k) → SlAt e sz enc (N ++ M) h a cap l
  | [], _ => y
  | b :: N, hN => (SlAt.pushL y N fun k hk => hN k (List.mem_cons_of_mem _ hk)).push (hN b (List.mem_cons_self ..))
theorem plainF_nos {m : MoveR} (hz : m.nos.length < 1000) : (plainF m).nos.length < 1000 := by
  have h0 : ([] : List Int).length < 1000 := by decide
  unfold plainF
  by_cases h1 : m.what = 1
  · rw [if_pos h1]; exact h0
  rw [if_neg h1]
  by_cases h2 : m.what = 2
  · rw [if_pos h2]; exact h0
  rw [if_neg h2]
  by_cases h3 : m.what = 3 ∨ m.what = 5 ∨ m.what = 6
  · rw [if_pos h3]; exact h0
  rw [if_neg h3]
  by_cases h4 : m.what = 4
  · rw [if_pos h4]; exact hz
  rw [if_neg h4]
  by_cases h5 : m.what = 10
  · rw [if_pos h5]; exact hz
  rw [if_neg h5]
  by_cases h6 : m.what = 11 ∨ m.what = 12
  · rw [if_pos h6]; exact h0
  rw [if_neg h6]; exact h0
theorem grown_new {h : Hp} {blk blk2 : Option Nat} (hb : blk2 = blk ∨ ∃ g, blk2 = some g ∧ h.size ≤ g) : ∃ N : List Nat, (∀ k, k ∈ N → h.size ≤ k ∧ blk2 = some k) ∧ ∀ k, k ∈ blk2.toList → k ∈ blk.toList ∨ k ∈ N := by
  rcases hb with rfl | ⟨g, rfl, hg⟩
  · exact ⟨[], fun k hk => (by cases hk), fun k hk => .inl hk⟩
  · exact ⟨[g], fun k hk => by rw [List.mem_singleton] at hk; rw [hk]; exact ⟨hg, rfl⟩, fun k hk => .inr (by simpa using hk)⟩
theorem do_c (x : StoP) (M Mn : List Nat) (st : Nat) (S : StoreR) (m : MoveR) (a : Option Addr) (cap : Nat) (h : Hp) (hM : Bd M h) (y : StoreAt x M h st S) (hn : IntsAt Mn h a cap m.nos) (hz : m.nos.length < 1000)
    (hstep : ∀ f, chF m.what = some f → ∀ (M : List Nat) (sb : Nat) (h : Hp) (p : StP), SC M sb h p (nowS S) → IntsAt [] h a cap m.nos → Call c Tryz.prog f #[.pointer (some ⟨sb, 0, none⟩), vMove m a cap] h (StepOk M sb h (stepF (nowS S) m))) :
    Call c Tryz.prog 39 #[.pointer (some ⟨st, 0, none⟩), vMove m a cap] h (DoOk x M h st (doF S m)) := by
  have hdo : doF S m = if (stepF (nowS S) m).2.1 ≠ 0 then (0, (stepF (nowS S) m).2.1, S) else if 2048 ≤ S.now then (0, 9, S) else ((stepF (nowS S) m).1, 0, ⟨S.states.take (S.now + 1) ++ [(stepF (nowS S) m).2.2], S.moves.take S.now ++ [plainF m], S.now + 1⟩) := rfl
  refine call_of layOk 89 Tryz.func39 Tryz.ntmps39 rfl rfl rfl rfl ?_
  refine wp_new ?_
  intro mb h1 hN
  have hc1 := hN.chg []
  refine wp_call (made_t (y.ext hc1)) ?_
  rintro _ h1 ⟨rfl, rfl⟩
  refine wp_brF rfl ?_
  refine wp_ord layOk mixed [(1, 2), (0, 0), (3, 8)] [0] (by kernel_rfl) ?_
  refine wp_load (v := .int .i64 m.what) (ld_of hN.here rfl) ?_
  refine wp_callE (changes_c h1) ?_
  rintro _ h2 ⟨bm, rfl, hm2, hc2⟩
  refine ⟨hc2, ?_⟩
  have hc02 := hc1.trans hc2
  cases hch : chF m.what with
  | none =>
    rw [stepF_none hch] at hdo
    refine wp_lookupN .nilFunc Tryz.underlying154 Tryz.underlying3 Tryz.zeroValue152 hm2 (by rw [chF_get, hch]; rfl) ?_
    refine wp_brT rfl ?_
    exact wp_done ⟨rfl, y.same hM hc02 hdo⟩
  | some f =>
    refine wp_lookupS (fnV f) Tryz.underlying154 Tryz.underlying3 Tryz.zeroValue152 hm2 (by rw [chF_get, hch]; rfl) ?_
    refine wp_brF rfl ?_
    have hnow := y.now
    have hgs := nowS_get hnow
    have hpl := y.stsOk.1
    have hnp : S.now < x.ps.length := by omega
    have hpe := List.getElem?_eq_getElem hnp
    generalize x.ps[S.now] = p at hpe
    have hσ0 := y.stsOk.2 _ _ _ hpe hgs
    have hstp := hstep f hch
    generalize stepF (nowS S) m = r at hdo hstp
    obtain ⟨n, e, σ'⟩ := r
    dsimp only at hdo
    have y2 := y.ext hc02
    obtain ⟨bs, hqs, hqb⟩ := y2.sts.ptr (i := ti112) hnp
    have hmb2 := hc2.of hN.here (by simp)
    have hblk2 : h2[st]? = some (.cells #[.slice (some ⟨bs, 0, none⟩) x.ps.length x.cS, .slice x.aM x.qs.length x.cM, .int .i64 S.now] 95 (0, 0)) := by rw [← hqs]; exact y2.blk
    have hso2 : StsOwn h2 (some ⟨bs, 0, none⟩) x.cS x.ps x.bS := by rw [← hqs]; exact y2.sts
    refine wp_ord layOk mixed [(0, 11)] [10] (by kernel_rfl) ?_
    refine wp_load (ld_of hblk2 rfl) ?_
    refine wp_load (ld_of hblk2 rfl) ?_
    refine wp_chk ⟨by omega, by omega⟩ ?_
    refine wp_load (hso2.ld1 (i := ti112) enSt hpe) ?_
    refine wp_new ?_
    intro b8 h3 hN3
    refine wp_store hN3.here (by rfl) ?_
    intro h4 hU4
    have hc24 : Chg [] h2 h4 := hU4.chgGe (hN3.chg []) hN3.le
    have hc04 := hc02.trans hc24
    have hle8 : h.size ≤ b8 := Nat.le_trans hc02.size hN3.le
    have hlt8 : b8 < h4.size := (Array.getElem?_eq_some_iff.1 hU4.here).1
    have y4 : SC (b8 :: M) b8 h4 p (nowS S) := ⟨Bd.cons (hM.chg hc04) hlt8, List.mem_cons_self .., hU4.here, (hσ0.push hle8).ext hc04⟩
    have hmb4 := hc24.of hmb2 (by simp)
    refine wp_load (v := vMove m a cap) (ld_of hmb4 rfl) ?_
    refine wp_call (hstp (b8 :: M) b8 h4 p y4 ((hn.ext hc04).sub (by simp))) ?_
    rintro _ h7 ⟨rfl, p', hb7, hσ7, hc7⟩
    dsimp only at hσ7
    have hc07 : Chg [] h h7 := hc04.fresh hc7 (fun k hk => .inr (by rw [List.mem_singleton] at hk; rw [hk]; exact hle8))
    have y7 := y.ext hc07
    refine wp_br (fun g1 => ?_) (fun g1 => ?_)
    · have d1 : (e != 0) = true := g1
      rw [if_pos (by simpa using d1)] at hdo
      exact wp_done ⟨rfl, y.same hM hc07 hdo⟩
    · have d1 : (e != 0) = false := g1
      have d1' : e = 0 := by simpa using d1
      rw [if_neg (by simpa using d1)] at hdo
      refine wp_load (ld_of y7.blk rfl) ?_
      refine wp_br (fun g2 => ?_) (fun g2 => ?_)
      · have d2 : (S.now : Int) ≥ 2048 := of_decide_eq_true g2
        rw [if_pos (by omega)] at hdo
        exact wp_done ⟨rfl, y.same hM hc07 hdo⟩
      · have d2 : ¬ (S.now : Int) ≥ 2048 := of_decide_eq_false g2
        rw [if_neg (by omega)] at hdo
        have hw1 : IntKind.i64.wrap ((S.now : Int) + 1) = S.now + 1 := w64 (by omega) (by omega)
        have hcap := y7.sts.len_cap
        have hfew := y.few
        have hlS : (x.ps.take (S.now + 1)).length + [p'].length < 1000000 := by rw [List.length_take, List.length_singleton]; omega
        have htl : (IntKind.i64.wrap ((S.now : Int) + 1)).toNat = (x.ps.take (S.now + 1)).length := by rw [hw1, List.length_take]; omega
        have hchk : 0 ≤ IntKind.i64.wrap ((S.now : Int) + 1) ∧ IntKind.i64.wrap ((S.now : Int) + 1) ≤ (x.cS : Int) := by rw [hw1]; omega
        have hst := (Array.getElem?_eq_some_iff.1 y.blk).1
        have hmb7 := (hc7.of hmb4 (fun hm => by
          have h1 := (Array.getElem?_eq_some_iff.1 hmb2).1
          have h2 := hN3.le
          have h3 := List.mem_singleton.1 hm
          omega))
        refine wp_ord layOk mixed [(0, 16)] [12] (by kernel_rfl) ?_
        refine wp_load (ld_of y7.blk rfl) ?_
        refine wp_load (ld_of y7.blk rfl) ?_
        refine wp_chk hchk ?_
        refine wp_load (v := vSt p') (ld_of hb7 rfl) ?_
        refine wp_new ?_
        intro b10 h10 hN10
        have ho10 := (OwnAt.take (sz := 5) (enc := elSt) (fun _ => rfl) y7.sts (S.now + 1)).ext (hN10.chg [])
        refine wp_append layOk (t := 93) rfl rfl rfl (i := ti112) enSt rfl ?_ rfl ho10 (M := []) (l' := [p']) (.inr ⟨b10, 0, _, rfl, by simp, hN10.here, Nat.le_refl _, Nat.le_refl _, rfl⟩) hlS (fun e => by cases e) ?_
        · exact congrArg (fun z => [Value.slice x.aS z x.cS, .slice (some ⟨b10, 0, none⟩) 1 1]) htl
        intro h11 aS' cS' bS' ho11 hc11 hbS'
        have hSst : ∀ g, x.bS = some g → g ≠ st := fun g hg e => by
          rcases y.sts with ⟨_, _, _, r⟩ | ⟨g', cs, _, r, r2, _⟩
          · rw [r] at hg; cases hg
          · rw [r] at hg
            cases hg
            exact ne_of_ty r2 y.blk (by decide) e
        have hMst : ∀ g, x.bM = some g → g ≠ st := fun g hg e => by
          rcases y.mvs with ⟨_, _, _, r⟩ | ⟨g', cs, _, r, r2, _⟩
          · rw [r] at hg; cases hg
          · rw [r] at hg
            cases hg
            exact ne_of_ty r2 y.blk (by decide) e
        have hSM : ∀ g, x.bS = some g → ∀ g', x.bM = some g' → g ≠ g' := fun g hg g' hg' e => by
          rcases y.sts with ⟨_, _, _, r⟩ | ⟨g1, cs, _, r, r2, _⟩
          · rw [r] at hg; cases hg
          · rcases y.mvs with ⟨_, _, _, q⟩ | ⟨g2, cs2, _, q, q2, _⟩
            · rw [q] at hg'; cases hg'
            · rw [r] at hg
              rw [q] at hg'
              cases hg
              cases hg'
              exact ne_of_ty r2 q2 (by decide) e
        have hb11 : h11[st]? = some (.cells (elSto x S.now).toArray 95 (0, 0)) := hc11.of (hN10.of y7.blk) (fun hm => hSst st (by simpa using hm) rfl)
        have hmb11 := hc11.of (hN10.of hmb7) (fun hm => by
          have h1 : x.bS = some mb := by simpa using hm
          have h2 := y.sts.lt mb h1
          have h3 := hN.le
          omega)
        have hm11 := (y7.mvs.ext (hN10.chg [])).chg hc11 (fun g hg hm => hSM g (by simpa using hm) g hg rfl)
        have hsz7 := hc07.size
        have hsz10 := hN10.size
        have hle10 := hN10.le
        have hsz11 := hc11.size
        have hS'st : ∀ g, bS' = some g → g ≠ st := fun g hg => by
          rcases hbS' with rfl | ⟨g', rfl, hg'⟩
          · exact hSst g hg
          · cases hg
            omega
        refine wp_store hb11 (by rfl) ?_
        intro h12 hU12
        have ho12 := ho11.wr hU12 hS'st
        have hm12 := hm11.wr hU12 hMst
        have hmb12 := hU12.of hmb11 (fun e => by have := hN.le; omega)
        have hsz12 := hU12.size
        refine wp_ord layOk mixed [(0, 16)] [11, 12] (by kernel_rfl) ?_
        refine wp_load (v := .slice x.aM x.qs.length x.cM) (ld_of hU12.here rfl) ?_
        refine wp_load (v := .int .i64 S.now) (ld_of hU12.here rfl) ?_
        have hcapM := y7.mvs.len_cap
        have hql : x.qs.length = S.moves.length := by rw [← y.mvsOk.1, List.length_map]
        have hlen := y.len
        refine wp_chk ⟨by omega, by omega⟩ ?_
        refine wp_load (v := vMove m a cap) (ld_of hmb12 rfl) ?_
        have hn12 : IntsAt [] h12 a cap m.nos := by
          have h1 : IntsAt [] h10 a cap m.nos := (((hn.ext hc07).ext (hN10.chg []))).sub (by simp)
          exact (h1.apart hc11 ho10 (by decide)).offTy (hU12.chg (M := [st]) (by simp)) hb11 (by decide)
        refine wp_callE (plain_c [] m a cap h12 hn12 (by omega)) ?_
        rintro _ h13 ⟨a13, cap13, blk13, rfl, ho13, hc13, hf13⟩
        refine ⟨hc13, ?_⟩
        refine wp_new ?_
        intro b14 h14 hN14
        have hc1214 : Chg [] h12 h14 := hc13.trans (hN14.chg [])
        have hm14 := (OwnAt.take (sz := 10) (enc := encMv) (fun _ => rfl) hm12 S.now).ext hc1214
        have hlM : (x.qs.take S.now).length + [(plainF m, a13, cap13)].length < 1000000 := by rw [List.length_take, List.length_singleton]; omega
        have htm : ((S.now : Int)).toNat = (x.qs.take S.now).length := by rw [List.length_take]; omega
        refine wp_append layOk (t := 46) rfl rfl rfl (i := ti54) enMv rfl ?_ rfl hm14 (M := []) (l' := [(plainF m, a13, cap13)]) (.inr ⟨b14, 0, _, rfl, by simp, hN14.here, Nat.le_refl _, Nat.le_refl _, rfl⟩) hlM (fun e => by cases e) ?_
        · exact congrArg (fun z => [Value.slice x.aM z x.cM, .slice (some ⟨b14, 0, none⟩) 1 1]) htm
        intro h15 aM' cM' bM' ho15 hc15 hbM'
        have hsz14 := hc1214.size
        have hsz15 := hc15.size
        have hM'st : ∀ g, bM' = some g → g ≠ st := fun g hg => by
          rcases hbM' with rfl | ⟨g', rfl, hg'⟩
          · exact hMst g hg
          · cases hg
            omega
        have hS'M : ∀ g, bS' = some g → g ∉ x.bM.toList := fun g hg hm => by
          have hm : x.bM = some g := by simpa using hm
          rcases hbS' with rfl | ⟨g', rfl, hg'⟩
          · exact hSM g hg g hm rfl
          · cases hg
            have := y.mvs.lt _ hm
            omega
        have hb15 := hc15.of (hc1214.of hU12.here (by simp)) (fun hm => hMst st (by simpa using hm) rfl)
        have ho15s := (ho12.ext hc1214).chg hc15 hS'M
        refine wp_store hb15 (by rfl) ?_
        intro h16 hU16
        refine wp_load (v := .int .i64 S.now) (ld_of hU16.here rfl) ?_
        refine wp_store hU16.here (by rfl) ?_
        intro h17 hU17
        have hblk17 : h17[st]? = some (.cells (elSto ⟨x.ps.take (S.now + 1) ++ [p'], x.qs.take S.now ++ [(plainF m, a13, cap13)], aS', cS', bS', aM', cM', bM'⟩ (S.now + 1)).toArray 95 (0, 0)) := by
          rw [hU17.here]
          unfold elSto
          exact congrArg (fun z => some (Obj.cells #[.slice aS' (x.ps.take (S.now + 1) ++ [p']).length cS', .slice aM' (x.qs.take S.now ++ [(plainF m, a13, cap13)]).length cM', .int .i64 z] 95 (0, 0))) hw1
        have hbS'0 : bS' = x.bS ∨ ∃ g, bS' = some g ∧ h7.size ≤ g := hbS'.imp id fun ⟨g, h1, h2⟩ => ⟨g, h1, Nat.le_trans (hN10.chg []).size h2⟩
        have hbM'0 : bM' = x.bM ∨ ∃ g, bM' = some g ∧ h7.size ≤ g := hbM'.imp id fun ⟨g, h1, h2⟩ => ⟨g, h1, by omega⟩
        have hfin : DoOk x M h st (doF S m) (.tuple #[.int .i64 n, .int .i64 0]) h17 := by
          obtain ⟨N1, hN1, hN1'⟩ := grown_new hbS'0
          obtain ⟨N2, hN2, hN2'⟩ := grown_new hbM'0
          have hF : ∀ k, k ∈ x.foot st → k ∈ M := y.foot
          have hstF := x.mem_st st
          have c12 : Chg (x.foot st) h7 h12 := ((hN10.chg _).trans (hc11.mono (fun k hk => x.mem_S st (by simpa using hk)))).trans (hU12.chg hstF)
          have c16 : Chg (x.foot st) h12 h17 := ((hc1214.mono (by simp)).trans (hc15.mono (fun k hk => x.mem_M st (by simpa using hk)))).trans ((hU16.chg hstF).trans (hU17.chg hstF))
          have c7 : Chg (x.foot st) h7 h17 := c12.trans c16
          have c0 : Chg (x.foot st) h h17 := (hc07.mono (by simp)).trans c7
          have hN7 : ∀ k, k ∈ N1 ++ N2 → h7.size ≤ k := fun k hk => (List.mem_append.1 hk).elim (fun hk => (hN1 k hk).1) (fun hk => (hN2 k hk).1)
          have hN0 : ∀ k, k ∈ N1 ++ N2 → h.size ≤ k := fun k hk => Nat.le_trans hsz7 (hN7 k hk)
          have hFN : ∀ k, k ∈ x.foot st → k ∈ (N1 ++ N2) ++ M := fun k hk => List.mem_append_right _ (hF k hk)
          have hsts17 : StsOwn h17 aS' cS' (x.ps.take (S.now + 1) ++ [p']) bS' := (ho15s.wr hU16 hS'st).wr hU17 hS'st
          have hmvs17 : MvsOwn h17 aM' cM' (x.qs.take S.now ++ [(plainF m, a13, cap13)]) bM' := (ho15.wr hU16 hM'st).wr hU17 hM'st
          have hσM : StOk M h7 p' σ' := hσ7.sub (fun k hk => List.mem_cons_of_mem _ hk)
          have hσ17 : StOk ((N1 ++ N2) ++ M) h17 p' σ' := (hσM.pushL _ hN7).chg c7 hFN
          have hst17 : StsOk ((N1 ++ N2) ++ M) h17 (x.ps.take (S.now + 1) ++ [p']) (S.states.take (S.now + 1) ++ [σ']) := by
            refine ⟨by simp only [List.length_append, List.length_take, List.length_singleton]; omega, fun i q τ hi hτ => ?_⟩
            by_cases hlt : i < S.now + 1
            · rw [List.getElem?_append_left (by rw [List.length_take]; omega), List.getElem?_take, if_pos hlt] at hi
              rw [List.getElem?_append_left (by rw [List.length_take]; omega), List.getElem?_take, if_pos hlt] at hτ
              exact ((y.stsOk.2 i q τ hi hτ).pushL _ hN0).chg c0 hFN
            · rw [List.getElem?_append_right (by rw [List.length_take]; omega), List.length_take] at hi
              rw [List.getElem?_append_right (by rw [List.length_take]; omega), List.length_take] at hτ
              have e1 : i - min (S.now + 1) x.ps.length = 0 := by
                have := (List.getElem?_eq_some_iff.1 hi).1
                rw [List.length_singleton] at this
                omega
              have e2 : i - min (S.now + 1) S.states.length = 0 := by
                have := (List.getElem?_eq_some_iff.1 hτ).1
                rw [List.length_singleton] at this
                omega
              rw [e1] at hi
              rw [e2] at hτ
              cases hi
              cases hτ
              exact hσ17
          have hmv17 : MvsOk ((N1 ++ N2) ++ M) h17 (x.qs.take S.now ++ [(plainF m, a13, cap13)]) (S.moves.take S.now ++ [plainF m]) := by
            refine ⟨by rw [List.map_append, List.map_take, y.mvsOk.1]; rfl, fun q hq => ?_⟩
            rcases List.mem_append.1 hq with hq | hq
            · have := y.mvsOk.2 q (List.mem_of_mem_take hq)
              exact ⟨(this.1.pushL _ hN0).chg c0 hFN, this.2⟩
            · rw [List.mem_singleton] at hq
              subst hq
              refine ⟨?_, plainF_nos hz⟩
              have h14o := ho13.ext (hN14.chg [])
              have hne : ∀ g, blk13 = some g → g ∉ x.bM.toList := fun g hg hm => by
                have h1 := hf13 g hg
                have h2 := y.mvs.lt g (by simpa using hm)
                omega
              have hne2 : ∀ g, blk13 = some g → g ≠ st := fun g hg => by
                have h1 := hf13 g hg
                omega
              have hne3 : ∀ g, blk13 = some g → g ∉ (N1 ++ N2) ++ M := fun g hg hm => by
                have h1 := hf13 g hg
                have h3 := ho13.lt g hg
                rcases List.mem_append.1 hm with hm | hm
                · rcases List.mem_append.1 hm with hm | hm
                  · have h4 := ho11.lt g (hN1 g hm).2
                    omega
                  · have h4 := (hN2 g hm).2
                    rcases hbM' with h5 | ⟨g', h5, h6⟩
                    · rw [h5] at h4
                      have := y.mvs.lt g h4
                      omega
                    · rw [h5] at h4
                      cases h4
                      have := hN14.size
                      have := hN14.le
                      omega
                · have := hM g hm
                  omega
              exact (((h14o.chg hc15 hne).wr hU16 hne2).wr hU17 hne2).sl hne3
          have hbd : Bd ((N1 ++ N2) ++ M) h17 := by
            intro k hk
            rcases List.mem_append.1 hk with hk | hk
            · rcases List.mem_append.1 hk with hk | hk
              · exact hsts17.lt k (hN1 k hk).2
              · exact hmvs17.lt k (hN2 k hk).2
            · exact Nat.lt_of_lt_of_le (hM k hk) c0.size
          have hfoot : ∀ k, k ∈ StoP.foot ⟨x.ps.take (S.now + 1) ++ [p'], x.qs.take S.now ++ [(plainF m, a13, cap13)], aS', cS', bS', aM', cM', bM'⟩ st → k ∈ x.foot st ∨ k ∈ N1 ++ N2 := by
            intro k hk
            unfold StoP.foot at hk
            rcases List.mem_cons.1 hk with rfl | hk
            · exact .inl hstF
            · rcases List.mem_append.1 hk with hk | hk
              · rcases hN1' k hk with h1 | h1
                · exact .inl (x.mem_S st (by simpa using h1))
                · exact .inr (List.mem_append_left _ h1)
              · rcases hN2' k hk with h1 | h1
                · exact .inl (x.mem_M st (by simpa using h1))
                · exact .inr (List.mem_append_right _ h1)
          rw [hdo]
          refine ⟨rfl, _, N1 ++ N2, ⟨hblk17, hsts17, hmvs17, hst17, hmv17, fun k hk => (hfoot k hk).elim (hFN k) (fun h1 => List.mem_append_left _ h1), ?_, ?_, ?_⟩, hbd, c0, fun k hk => (hfoot k hk).imp id (hN0 k), hN0⟩
          · simp only [List.length_append, List.length_take, List.length_singleton]; omega
          · simp only [List.length_append, List.length_take, List.length_singleton]; omega
          · simp only [List.length_append, List.length_take, List.length_singleton]; omega
        exact wp_done ⟨rfl, hfin⟩
end Go.Xe
