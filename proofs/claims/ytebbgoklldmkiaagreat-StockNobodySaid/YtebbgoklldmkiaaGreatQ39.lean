/- changes, plain. -/
import Derived.Test.YtebbgoklldmkiaaGreatQ28
import Derived.Test.YtebbgoklldmkiaaGreatQ38
import Derived.Test.YtebbgoklldmkiaaGreatQ17
namespace Go.Xe
open Go Go.Proofs
set_option maxRecDepth 20000
variable {c : World}
def fnV (f : Nat) : Value := .func (.func f) #[] #[]
def chL : List (Int × Value) := [(1, fnV 112), (2, fnV 113), (3, fnV 114), (4, fnV 115), (5, fnV 116), (6, fnV 117), (7, fnV 118), (8, fnV 119), (9, fnV 120), (10, fnV 121), (11, fnV 122), (12, fnV 123)]
theorem changes_c (h : Hp) : Call c Tryz.prog 76 #[] h fun v h' => ∃ b, v = .map (some b) ∧ MapIs h' b chL ∧ Chg [] h h' := by
  refine call_of layOk 3 Tryz.func76 Tryz.ntmps76 rfl rfl rfl rfl ?_
  refine wp_makeMap ?_
  intro b h0 hN
  have h00 : MapIs h0 b [] := hN.here
  have hc0 := hN.chg []
  have hle := hN.le
  refine wp_mapSet Tryz.underlying154 Tryz.underlying3 h00 ?_
  intro h1 m1 u1
  refine wp_mapSet Tryz.underlying154 Tryz.underlying3 m1 ?_
  intro h2 m2 u2
  refine wp_mapSet Tryz.underlying154 Tryz.underlying3 m2 ?_
  intro h3 m3 u3
  refine wp_mapSet Tryz.underlying154 Tryz.underlying3 m3 ?_
  intro h4 m4 u4
  refine wp_mapSet Tryz.underlying154 Tryz.underlying3 m4 ?_
  intro h5 m5 u5
  refine wp_mapSet Tryz.underlying154 Tryz.underlying3 m5 ?_
  intro h6 m6 u6
  refine wp_mapSet Tryz.underlying154 Tryz.underlying3 m6 ?_
  intro h7 m7 u7
  refine wp_mapSet Tryz.underlying154 Tryz.underlying3 m7 ?_
  intro h8 m8 u8
  refine wp_mapSet Tryz.underlying154 Tryz.underlying3 m8 ?_
  intro h9 m9 u9
  refine wp_mapSet Tryz.underlying154 Tryz.underlying3 m9 ?_
  intro h10 m10 u10
  refine wp_mapSet Tryz.underlying154 Tryz.underlying3 m10 ?_
  intro h11 m11 u11
  refine wp_mapSet Tryz.underlying154 Tryz.underlying3 m11 ?_
  intro h12 m12 u12
  have hc := u12.chgGe (u11.chgGe (u10.chgGe (u9.chgGe (u8.chgGe (u7.chgGe (u6.chgGe (u5.chgGe (u4.chgGe (u3.chgGe (u2.chgGe (u1.chgGe hc0 hle) hle) hle) hle) hle) hle) hle) hle) hle) hle) hle) hle
  exact wp_done ⟨rfl, b, rfl, m12, hc⟩
def zMoveR : MoveR := ⟨0, 0, [], 0, ⟨0, 0, 0, 0⟩, ⟨#[]⟩, ⟨#[]⟩⟩
def plainF (m : MoveR) : MoveR :=
  if m.what = 1 then { zMoveR with what := m.what, name := m.name, owner := m.owner }
  else if m.what = 2 then { zMoveR with what := m.what, no := m.no, kind := m.kind, grams := m.grams }
  else if m.what = 3 ∨ m.what = 5 ∨ m.what = 6 then { zMoveR with what := m.what, no := m.no, grams := m.grams }
  else if m.what = 4 then { zMoveR with what := m.what, nos := m.nos }
  else if m.what = 10 then { zMoveR with what := m.what, name := m.name, nos := m.nos }
  else if m.what = 11 ∨ m.what = 12 then { zMoveR with what := m.what, name := m.name }
  else { zMoveR with what := m.what, no := m.no }
theorem plain_c (Mn : List Nat) (m : MoveR) (a : Option Addr) (cap : Nat) (h : Hp) (hn : IntsAt Mn h a cap m.nos) (hz : m.nos.length < 900000) :
    Call c Tryz.prog 74 #[vMove m a cap] h fun v h' => ∃ a' cap' blk', v = vMove (plainF m) a' cap' ∧ IntsOwn h' a' cap' (plainF m).nos blk' ∧ Chg [] h h' ∧ Fresh h blk' := by
  refine call_ofM layOk 63 Tryz.func74 Tryz.ntmps74 rfl rfl rfl ?_
  refine wp_new ?_
  intro b1 h1 hN1
  refine wp_new ?_
  intro b2 h2 hN2
  have hb1 := hN2.of hN1.here
  refine wp_load (v := .int .i64 m.what) (ld_of hb1 rfl) ?_
  refine wp_new ?_
  intro b3 h3 hN3
  refine wp_store hN3.here (by rfl) ?_
  intro h4 hU4
  have hc02 : Chg [] h h2 := (hN1.chg []).trans (hN2.chg [])
  have hle3 : h.size ≤ b3 := Nat.le_trans hc02.size hN3.le
  have hc4 : Chg [] h h4 := hU4.chgGe (hc02.trans (hN3.chg [])) hle3
  have h13 : b1 ≠ b3 := hN3.ne hb1
  have h23 : b2 ≠ b3 := hN3.ne hN2.here
  have hb14 := hU4.of (hN3.of hb1) h13
  have hb24 := hU4.of (hN3.of hN2.here) h23
  have hD : b1 ∉ [b3] := fun hm => h13 (List.mem_singleton.1 hm)
  have hle2 : h.size ≤ b2 := Nat.le_trans (hN1.chg []).size hN2.le
  have end_ : ∀ (r : MoveR) a' cap' blk' h5, plainF m = r → h5[b3]? = some (.cells (elMove r a' cap').toArray 54 (0, 0)) → Chg [] h h5 → IntsOwn h5 a' cap' r.nos blk' → Fresh h blk' → (∀ g, blk' = some g → g ≠ b2) →
      ∀ h6, Upd h5 h6 b2 (.cells (wrAt [.int .i64 0, .int .i64 0, .slice none 0 0, .int .i64 0, .int .u8 0, .int .u8 0, .int .u8 0, .int .u8 0, .string ⟨#[]⟩, .string ⟨#[]⟩] 0 (vMove r a' cap').cells.toList).toArray 54) →
      h6[b2]? = some (.cells (elMove (plainF m) a' cap').toArray 54 (0, 0)) ∧ ∃ a2 cap2 blk2, tupV [vMove r a' cap'] = vMove (plainF m) a2 cap2 ∧ IntsOwn h6 a2 cap2 (plainF m).nos blk2 ∧ Chg [] h h6 ∧ Fresh h blk2 := by
    intro r a' cap' blk' h5 hr e3 hc ho hf hne h6 hU
    subst hr
    exact ⟨hU.here, a', cap', blk', rfl, ho.wr hU hne, hU.chgGe hc hle2, hf⟩
  refine wp_load (v := .int .i64 m.what) (ld_of hb14 rfl) ?_
  refine wp_br (fun g1 => ?_) (fun g1 => ?_)
  · have e1 : m.what = 1 := by simpa using g1
    refine wp_ordD layOk mixed [b3] [(0, 7)] [5] (by kernel_rfl) ?_
    refine wp_chk hD ?_
    refine wp_load (v := .string m.name) (ld_of hb14 rfl) ?_
    refine wp_chk hD ?_
    refine wp_load (v := .string m.owner) (ld_of hb14 rfl) ?_
    refine wp_chk (by simp) ?_
    refine wp_store hU4.here (by rfl) ?_
    intro h5 hU5
    refine wp_store hU5.here (by rfl) ?_
    intro h6 hU6
    have hr : plainF m = { zMoveR with what := m.what, name := m.name, owner := m.owner } := (by unfold plainF; simp [e1])
    refine wp_load (v := vMove { zMoveR with what := m.what, name := m.name, owner := m.owner } none 0) (ld_of hU6.here rfl) ?_
    refine wp_store (hU6.of (hU5.of hb24 h23) h23) (by rfl) ?_
    intro h9 hU9
    have hh := end_ { zMoveR with what := m.what, name := m.name, owner := m.owner } none 0 none _ hr hU6.here (hU6.chgGe (hU5.chgGe hc4 hle3) hle3) OwnAt.nil .none (fun g hg => by cases hg) h9 hU9
    exact wp_done (finM_at [vMove { zMoveR with what := m.what, name := m.name, owner := m.owner } none 0] rfl ⟨⟨_, _, _, rfl, rfl, ld_of hU9.here rfl⟩, trivial⟩ hh.2)
  · have e1 : m.what ≠ 1 := by simpa using g1
    refine wp_br (fun g2 => ?_) (fun g2 => ?_)
    · have e2 : m.what = 2 := by simpa using g2
      refine wp_ordD layOk mixed [b3] [(0, 11)] [7, 9] (by kernel_rfl) ?_
      refine wp_chk hD ?_
      refine wp_load (v := .int .i64 m.no) (ld_of hb14 rfl) ?_
      refine wp_chk hD ?_
      refine wp_load (v := vKind m.kind) (ld_of hb14 rfl) ?_
      refine wp_chk hD ?_
      refine wp_load (v := .int .i64 m.grams) (ld_of hb14 rfl) ?_
      refine wp_chk (by simp) ?_
      refine wp_store hU4.here (by rfl) ?_
      intro h5 hU5
      refine wp_chk (by simp) ?_
      refine wp_store hU5.here (by rfl) ?_
      intro h6 hU6
      refine wp_store hU6.here (by rfl) ?_
      intro h7 hU7
      have hr : plainF m = { zMoveR with what := m.what, no := m.no, kind := m.kind, grams := m.grams } := (by unfold plainF; simp [e2])
      refine wp_load (v := vMove { zMoveR with what := m.what, no := m.no, kind := m.kind, grams := m.grams } none 0) (ld_of hU7.here rfl) ?_
      refine wp_store (hU7.of (hU6.of (hU5.of hb24 h23) h23) h23) (by rfl) ?_
      intro h9 hU9
      have hh := end_ { zMoveR with what := m.what, no := m.no, kind := m.kind, grams := m.grams } none 0 none _ hr hU7.here (hU7.chgGe (hU6.chgGe (hU5.chgGe hc4 hle3) hle3) hle3) OwnAt.nil .none (fun g hg => by cases hg) h9 hU9
      exact wp_done (finM_at [vMove { zMoveR with what := m.what, no := m.no, kind := m.kind, grams := m.grams } none 0] rfl ⟨⟨_, _, _, rfl, rfl, ld_of hU9.here rfl⟩, trivial⟩ hh.2)
    · have e2 : m.what ≠ 2 := by simpa using g2
      refine wp_br (fun g3 => ?_) (fun g3 => ?_)
      · have ee : m.what = 3 := by simpa using g3
        refine wp_brT g3 ?_
        refine wp_ordD layOk mixed [b3] [(0, 7)] [5] (by kernel_rfl) ?_
        refine wp_chk hD ?_
        refine wp_load (v := .int .i64 m.no) (ld_of hb14 rfl) ?_
        refine wp_chk hD ?_
        refine wp_load (v := .int .i64 m.grams) (ld_of hb14 rfl) ?_
        refine wp_chk (by simp) ?_
        refine wp_store hU4.here (by rfl) ?_
        intro h5 hU5
        refine wp_store hU5.here (by rfl) ?_
        intro h6 hU6
        have hr : plainF m = { zMoveR with what := m.what, no := m.no, grams := m.grams } := (by unfold plainF; simp [ee])
        refine wp_load (v := vMove { zMoveR with what := m.what, no := m.no, grams := m.grams } none 0) (ld_of hU6.here rfl) ?_
        refine wp_store (hU6.of (hU5.of hb24 h23) h23) (by rfl) ?_
        intro h9 hU9
        have hh := end_ { zMoveR with what := m.what, no := m.no, grams := m.grams } none 0 none _ hr hU6.here (hU6.chgGe (hU5.chgGe hc4 hle3) hle3) OwnAt.nil .none (fun g hg => by cases hg) h9 hU9
        exact wp_done (finM_at [vMove { zMoveR with what := m.what, no := m.no, grams := m.grams } none 0] rfl ⟨⟨_, _, _, rfl, rfl, ld_of hU9.here rfl⟩, trivial⟩ hh.2)
      · have e3 : m.what ≠ 3 := by simpa using g3
        refine wp_br (fun g4 => ?_) (fun g4 => ?_)
        · have ee : m.what = 5 := by simpa using g4
          refine wp_brT g4 ?_
          refine wp_ordD layOk mixed [b3] [(0, 7)] [5] (by kernel_rfl) ?_
          refine wp_chk hD ?_
          refine wp_load (v := .int .i64 m.no) (ld_of hb14 rfl) ?_
          refine wp_chk hD ?_
          refine wp_load (v := .int .i64 m.grams) (ld_of hb14 rfl) ?_
          refine wp_chk (by simp) ?_
          refine wp_store hU4.here (by rfl) ?_
          intro h5 hU5
          refine wp_store hU5.here (by rfl) ?_
          intro h6 hU6
          have hr : plainF m = { zMoveR with what := m.what, no := m.no, grams := m.grams } := (by unfold plainF; simp [ee])
          refine wp_load (v := vMove { zMoveR with what := m.what, no := m.no, grams := m.grams } none 0) (ld_of hU6.here rfl) ?_
          refine wp_store (hU6.of (hU5.of hb24 h23) h23) (by rfl) ?_
          intro h9 hU9
          have hh := end_ { zMoveR with what := m.what, no := m.no, grams := m.grams } none 0 none _ hr hU6.here (hU6.chgGe (hU5.chgGe hc4 hle3) hle3) OwnAt.nil .none (fun g hg => by cases hg) h9 hU9
          exact wp_done (finM_at [vMove { zMoveR with what := m.what, no := m.no, grams := m.grams } none 0] rfl ⟨⟨_, _, _, rfl, rfl, ld_of hU9.here rfl⟩, trivial⟩ hh.2)
        · have e4 : m.what ≠ 5 := by simpa using g4
          refine wp_br (fun g5 => ?_) (fun g5 => ?_)
          · have ee : m.what = 6 := by simpa using g5
            refine wp_ordD layOk mixed [b3] [(0, 7)] [5] (by kernel_rfl) ?_
            refine wp_chk hD ?_
            refine wp_load (v := .int .i64 m.no) (ld_of hb14 rfl) ?_
            refine wp_chk hD ?_
            refine wp_load (v := .int .i64 m.grams) (ld_of hb14 rfl) ?_
            refine wp_chk (by simp) ?_
            refine wp_store hU4.here (by rfl) ?_
            intro h5 hU5
            refine wp_store hU5.here (by rfl) ?_
            intro h6 hU6
            have hr : plainF m = { zMoveR with what := m.what, no := m.no, grams := m.grams } := (by unfold plainF; simp [ee])
            refine wp_load (v := vMove { zMoveR with what := m.what, no := m.no, grams := m.grams } none 0) (ld_of hU6.here rfl) ?_
            refine wp_store (hU6.of (hU5.of hb24 h23) h23) (by rfl) ?_
            intro h9 hU9
            have hh := end_ { zMoveR with what := m.what, no := m.no, grams := m.grams } none 0 none _ hr hU6.here (hU6.chgGe (hU5.chgGe hc4 hle3) hle3) OwnAt.nil .none (fun g hg => by cases hg) h9 hU9
            exact wp_done (finM_at [vMove { zMoveR with what := m.what, no := m.no, grams := m.grams } none 0] rfl ⟨⟨_, _, _, rfl, rfl, ld_of hU9.here rfl⟩, trivial⟩ hh.2)
          · have e5 : m.what ≠ 6 := by simpa using g5
            refine wp_br (fun g6 => ?_) (fun g6 => ?_)
            · have e6 : m.what = 4 := by simpa using g6
              refine wp_load (v := .slice a m.nos.length cap) (ld_of hb14 rfl) ?_
              refine wp_call (clone66_c Mn m.nos a cap h4 (hn.ext hc4) hz) ?_
              rintro _ h5 ⟨a5, cap5, blk5, rfl, ho5, hc5, hf5⟩
              have hb5 := hc5.of hU4.here (by simp)
              have hb25 := hc5.of hb24 (by simp)
              have hl3 := (Array.getElem?_eq_some_iff.1 hU4.here).1
              have hl2 := (Array.getElem?_eq_some_iff.1 hb24).1
              refine wp_store hb5 (by rfl) ?_
              intro h6 hU6
              have hr : plainF m = { zMoveR with what := m.what, nos := m.nos } := (by unfold plainF; simp [e6])
              refine wp_load (v := vMove { zMoveR with what := m.what, nos := m.nos } a5 cap5) (ld_of hU6.here rfl) ?_
              refine wp_store (hU6.of hb25 h23) (by rfl) ?_
              intro h9 hU9
              have hh := end_ { zMoveR with what := m.what, nos := m.nos } a5 cap5 blk5 _ hr hU6.here (hU6.chgGe (hc4.trans hc5) hle3) (ho5.wr hU6 (fun g hg => by have := hf5 g hg; omega)) (hf5.back hc4.size) (fun g hg => by have := hf5 g hg; omega) h9 hU9
              exact wp_done (finM_at [vMove { zMoveR with what := m.what, nos := m.nos } a5 cap5] rfl ⟨⟨_, _, _, rfl, rfl, ld_of hU9.here rfl⟩, trivial⟩ hh.2)
            · have e6 : m.what ≠ 4 := by simpa using g6
              refine wp_br (fun g7 => ?_) (fun g7 => ?_)
              · have e7 : m.what = 10 := by simpa using g7
                refine wp_ord layOk mixed [(0, 3), (5, 5), (4, 4), (6, 8)] [4] (by kernel_rfl) ?_
                refine wp_load (v := .string m.name) (ld_of hb14 rfl) ?_
                refine wp_load (v := .slice a m.nos.length cap) (ld_of hb14 rfl) ?_
                refine wp_callE (clone66_c Mn m.nos a cap h4 (hn.ext hc4) hz) ?_
                rintro _ h5 ⟨a5, cap5, blk5, rfl, ho5, hc5, hf5⟩
                refine ⟨hc5, ?_⟩
                have hb5 := hc5.of hU4.here (by simp)
                have hb25 := hc5.of hb24 (by simp)
                have hl3 := (Array.getElem?_eq_some_iff.1 hU4.here).1
                have hl2 := (Array.getElem?_eq_some_iff.1 hb24).1
                refine wp_store hb5 (by rfl) ?_
                intro h6 hU6
                refine wp_store hU6.here (by rfl) ?_
                intro h7 hU7
                have hr : plainF m = { zMoveR with what := m.what, name := m.name, nos := m.nos } := (by unfold plainF; simp [e7])
                refine wp_load (v := vMove { zMoveR with what := m.what, name := m.name, nos := m.nos } a5 cap5) (ld_of hU7.here rfl) ?_
                refine wp_store (hU7.of (hU6.of hb25 h23) h23) (by rfl) ?_
                intro h9 hU9
                have hh := end_ { zMoveR with what := m.what, name := m.name, nos := m.nos } a5 cap5 blk5 _ hr hU7.here (hU7.chgGe (hU6.chgGe (hc4.trans hc5) hle3) hle3) ((ho5.wr hU6 (fun g hg => by have := hf5 g hg; omega)).wr hU7 (fun g hg => by have := hf5 g hg; omega)) (hf5.back hc4.size) (fun g hg => by have := hf5 g hg; omega) h9 hU9
                exact wp_done (finM_at [vMove { zMoveR with what := m.what, name := m.name, nos := m.nos } a5 cap5] rfl ⟨⟨_, _, _, rfl, rfl, ld_of hU9.here rfl⟩, trivial⟩ hh.2)
              · have e7 : m.what ≠ 10 := by simpa using g7
                refine wp_br (fun g8 => ?_) (fun g8 => ?_)
                · have ee : m.what = 11 := by simpa using g8
                  refine wp_brT g8 ?_
                  refine wp_load (v := .string m.name) (ld_of hb14 rfl) ?_
                  refine wp_store hU4.here (by rfl) ?_
                  intro h5 hU5
                  have hr : plainF m = { zMoveR with what := m.what, name := m.name } := (by unfold plainF; simp [ee])
                  refine wp_load (v := vMove { zMoveR with what := m.what, name := m.name } none 0) (ld_of hU5.here rfl) ?_
                  refine wp_store (hU5.of hb24 h23) (by rfl) ?_
                  intro h9 hU9
                  have hh := end_ { zMoveR with what := m.what, name := m.name } none 0 none _ hr hU5.here (hU5.chgGe hc4 hle3) OwnAt.nil .none (fun g hg => by cases hg) h9 hU9
                  exact wp_done (finM_at [vMove { zMoveR with what := m.what, name := m.name } none 0] rfl ⟨⟨_, _, _, rfl, rfl, ld_of hU9.here rfl⟩, trivial⟩ hh.2)
                · have e8 : m.what ≠ 11 := by simpa using g8
                  refine wp_br (fun g9 => ?_) (fun g9 => ?_)
                  · have ee : m.what = 12 := by simpa using g9
                    refine wp_load (v := .string m.name) (ld_of hb14 rfl) ?_
                    refine wp_store hU4.here (by rfl) ?_
                    intro h5 hU5
                    have hr : plainF m = { zMoveR with what := m.what, name := m.name } := (by unfold plainF; simp [ee])
                    refine wp_load (v := vMove { zMoveR with what := m.what, name := m.name } none 0) (ld_of hU5.here rfl) ?_
                    refine wp_store (hU5.of hb24 h23) (by rfl) ?_
                    intro h9 hU9
                    have hh := end_ { zMoveR with what := m.what, name := m.name } none 0 none _ hr hU5.here (hU5.chgGe hc4 hle3) OwnAt.nil .none (fun g hg => by cases hg) h9 hU9
                    exact wp_done (finM_at [vMove { zMoveR with what := m.what, name := m.name } none 0] rfl ⟨⟨_, _, _, rfl, rfl, ld_of hU9.here rfl⟩, trivial⟩ hh.2)
                  · have e9 : m.what ≠ 12 := by simpa using g9
                    refine wp_load (v := .int .i64 m.no) (ld_of hb14 rfl) ?_
                    refine wp_store hU4.here (by rfl) ?_
                    intro h5 hU5
                    have hr : plainF m = { zMoveR with what := m.what, no := m.no } := (by unfold plainF; simp [e1, e2, e3, e4, e5, e6, e7, e8, e9])
                    refine wp_load (v := vMove { zMoveR with what := m.what, no := m.no } none 0) (ld_of hU5.here rfl) ?_
                    refine wp_store (hU5.of hb24 h23) (by rfl) ?_
                    intro h9 hU9
                    have hh := end_ { zMoveR with what := m.what, no := m.no } none 0 none _ hr hU5.here (hU5.chgGe hc4 hle3) OwnAt.nil .none (fun g hg => by cases hg) h9 hU9
                    exact wp_done (finM_at [vMove { zMoveR with what := m.what, no := m.no } none 0] rfl ⟨⟨_, _, _, rfl, rfl, ld_of hU9.here rfl⟩, trivial⟩ hh.2)
end Go.Xe
