/- A nil store and a zero one: every method says so. -/
import Derived.Test.YtebbgoklldmkiaaGreatQ42
namespace Go.Xe
open Go Go.Proofs
set_option maxRecDepth 20000
variable {c : World}
def DeadS (h : Hp) (a : Option Addr) : Prop := a = none ∨ ∃ st, a = some ⟨st, 0, none⟩ ∧ h[st]? = some (.cells #[.slice none 0 0, .slice none 0 0, .int .i64 0] 95 (0, 0))
theorem DeadS.ext {h h' : Hp} {a : Option Addr} (x : Chg [] h h') (y : DeadS h a) : DeadS h' a := y.imp id fun ⟨st, h1, h2⟩ => ⟨st, h1, x.of h2 (by simp)⟩
theorem made_d (h : Hp) (a : Option Addr) (y : DeadS h a) : Call c Tryz.prog 71 #[.pointer a] h fun v h' => v = .bool false ∧ h' = h := by
  rcases y with rfl | ⟨st, rfl, hb⟩
  · exact madeN_c h
  · exact madeZ_c h st hb
theorem do_d (h : Hp) (a : Option Addr) (y : DeadS h a) (m : MoveR) (am : Option Addr) (cm : Nat) : Call c Tryz.prog 39 #[.pointer a, vMove m am cm] h fun v h' => v = .tuple #[.int .i64 0, .int .i64 1] ∧ Chg [] h h' := by
  refine call_of layOk 89 Tryz.func39 Tryz.ntmps39 rfl rfl rfl rfl ?_
  refine wp_new ?_
  intro b h1 hN
  refine wp_call (made_d h1 a (y.ext (hN.chg []))) ?_
  rintro _ h1 ⟨rfl, rfl⟩
  exact wp_brT rfl (wp_done ⟨rfl, rfl, hN.chg []⟩)
theorem only_d (h : Hp) (a : Option Addr) (y : DeadS h a) (m : MoveR) (am : Option Addr) (cm : Nat) : Call c Tryz.prog 135 #[.pointer a, vMove m am cm] h fun v h' => v = .int .i64 1 ∧ Chg [] h h' := by
  refine call_of layOk 14 Tryz.func135 Tryz.ntmps135 rfl rfl rfl rfl ?_
  refine wp_new ?_
  intro b h1 hN
  refine wp_load (v := vMove m am cm) (ld_of hN.here rfl) ?_
  refine wp_call (do_d h1 a (y.ext (hN.chg [])) m am cm) ?_
  rintro _ h2 ⟨rfl, hc⟩
  exact wp_done ⟨rfl, rfl, (hN.chg []).trans hc⟩
theorem clip_d (h : Hp) (a : Option Addr) (y : DeadS h a) (x z : ByteArray) : Call c Tryz.prog 58 #[.pointer a, .string x, .string z] h fun v h' => v = .tuple #[.int .i64 0, .int .i64 1] ∧ Chg [] h h' := by
  refine call_of layOk 15 Tryz.func58 Tryz.ntmps58 rfl rfl rfl rfl ?_
  refine wp_call (do_d h a y { zMoveR with what := 1, name := x, owner := z } none 0) ?_
  rintro _ h2 ⟨rfl, hc⟩
  exact wp_done ⟨rfl, rfl, hc⟩
theorem recv_d (h : Hp) (a : Option Addr) (y : DeadS h a) (no : Int) (k : KindR) (g : Int) : Call c Tryz.prog 59 #[.pointer a, .int .i64 no, vKind k, .int .i64 g] h fun v h' => v = .tuple #[.int .i64 0, .int .i64 1] ∧ Chg [] h h' := by
  refine call_of layOk 18 Tryz.func59 Tryz.ntmps59 rfl rfl rfl rfl ?_
  refine wp_new ?_
  intro b h1 hN
  refine wp_load (v := vKind k) (ld_of hN.here rfl) ?_
  refine wp_call (do_d h1 a (y.ext (hN.chg [])) { zMoveR with what := 2, no := no, kind := k, grams := g } none 0) ?_
  rintro _ h2 ⟨rfl, hc⟩
  exact wp_done ⟨rfl, rfl, (hN.chg []).trans hc⟩
theorem split_d (h : Hp) (a : Option Addr) (y : DeadS h a) (no g : Int) : Call c Tryz.prog 61 #[.pointer a, .int .i64 no, .int .i64 g] h fun v h' => v = .tuple #[.int .i64 0, .int .i64 1] ∧ Chg [] h h' := by
  refine call_of layOk 15 Tryz.func61 Tryz.ntmps61 rfl rfl rfl rfl ?_
  refine wp_call (do_d h a y { zMoveR with what := 3, no := no, grams := g } none 0) ?_
  rintro _ h2 ⟨rfl, hc⟩
  exact wp_done ⟨rfl, rfl, hc⟩
theorem merge_d (h : Hp) (a : Option Addr) (y : DeadS h a) (m : MoveR) (an : Option Addr) (cn : Nat) : Call c Tryz.prog 60 #[.pointer a, .slice an m.nos.length cn] h fun v h' => v = .tuple #[.int .i64 0, .int .i64 1] ∧ Chg [] h h' := by
  refine call_of layOk 12 Tryz.func60 Tryz.ntmps60 rfl rfl rfl rfl ?_
  refine wp_call (do_d h a y { zMoveR with what := 4, nos := m.nos } an cn) ?_
  rintro _ h2 ⟨rfl, hc⟩
  exact wp_done ⟨rfl, rfl, hc⟩
theorem core_d (h : Hp) (a : Option Addr) (y : DeadS h a) (no g : Int) : Call c Tryz.prog 92 #[.pointer a, .int .i64 no, .int .i64 g] h fun v h' => v = .int .i64 1 ∧ Chg [] h h' := by
  refine call_of layOk 12 Tryz.func92 Tryz.ntmps92 rfl rfl rfl rfl ?_
  refine wp_call (only_d h a y { zMoveR with what := 5, no := no, grams := g } none 0) ?_
  rintro _ h2 ⟨rfl, hc⟩
  exact wp_done ⟨rfl, rfl, hc⟩
theorem weigh_d (h : Hp) (a : Option Addr) (y : DeadS h a) (no g : Int) : Call c Tryz.prog 93 #[.pointer a, .int .i64 no, .int .i64 g] h fun v h' => v = .int .i64 1 ∧ Chg [] h h' := by
  refine call_of layOk 12 Tryz.func93 Tryz.ntmps93 rfl rfl rfl rfl ?_
  refine wp_call (only_d h a y { zMoveR with what := 6, no := no, grams := g } none 0) ?_
  rintro _ h2 ⟨rfl, hc⟩
  exact wp_done ⟨rfl, rfl, hc⟩
theorem hold_d (h : Hp) (a : Option Addr) (y : DeadS h a) (no : Int) : Call c Tryz.prog 94 #[.pointer a, .int .i64 no] h fun v h' => v = .int .i64 1 ∧ Chg [] h h' := by
  refine call_of layOk 9 Tryz.func94 Tryz.ntmps94 rfl rfl rfl rfl ?_
  refine wp_call (only_d h a y { zMoveR with what := 7, no := no } none 0) ?_
  rintro _ h2 ⟨rfl, hc⟩
  exact wp_done ⟨rfl, rfl, hc⟩
theorem release_d (h : Hp) (a : Option Addr) (y : DeadS h a) (no : Int) : Call c Tryz.prog 95 #[.pointer a, .int .i64 no] h fun v h' => v = .int .i64 1 ∧ Chg [] h h' := by
  refine call_of layOk 9 Tryz.func95 Tryz.ntmps95 rfl rfl rfl rfl ?_
  refine wp_call (only_d h a y { zMoveR with what := 8, no := no } none 0) ?_
  rintro _ h2 ⟨rfl, hc⟩
  exact wp_done ⟨rfl, rfl, hc⟩
theorem waste_d (h : Hp) (a : Option Addr) (y : DeadS h a) (no : Int) : Call c Tryz.prog 96 #[.pointer a, .int .i64 no] h fun v h' => v = .int .i64 1 ∧ Chg [] h h' := by
  refine call_of layOk 9 Tryz.func96 Tryz.ntmps96 rfl rfl rfl rfl ?_
  refine wp_call (only_d h a y { zMoveR with what := 9, no := no } none 0) ?_
  rintro _ h2 ⟨rfl, hc⟩
  exact wp_done ⟨rfl, rfl, hc⟩
theorem lot_d (h : Hp) (a : Option Addr) (y : DeadS h a) (m : MoveR) (an : Option Addr) (cn : Nat) : Call c Tryz.prog 97 #[.pointer a, .string m.name, .slice an m.nos.length cn] h fun v h' => v = .int .i64 1 ∧ Chg [] h h' := by
  refine call_of layOk 12 Tryz.func97 Tryz.ntmps97 rfl rfl rfl rfl ?_
  refine wp_call (only_d h a y { zMoveR with what := 10, name := m.name, nos := m.nos } an cn) ?_
  rintro _ h2 ⟨rfl, hc⟩
  exact wp_done ⟨rfl, rfl, hc⟩
theorem unlot_d (h : Hp) (a : Option Addr) (y : DeadS h a) (x : ByteArray) : Call c Tryz.prog 98 #[.pointer a, .string x] h fun v h' => v = .int .i64 1 ∧ Chg [] h h' := by
  refine call_of layOk 9 Tryz.func98 Tryz.ntmps98 rfl rfl rfl rfl ?_
  refine wp_call (only_d h a y { zMoveR with what := 11, name := x } none 0) ?_
  rintro _ h2 ⟨rfl, hc⟩
  exact wp_done ⟨rfl, rfl, hc⟩
theorem send_d (h : Hp) (a : Option Addr) (y : DeadS h a) (x : ByteArray) : Call c Tryz.prog 99 #[.pointer a, .string x] h fun v h' => v = .int .i64 1 ∧ Chg [] h h' := by
  refine call_of layOk 9 Tryz.func99 Tryz.ntmps99 rfl rfl rfl rfl ?_
  refine wp_call (only_d h a y { zMoveR with what := 12, name := x } none 0) ?_
  rintro _ h2 ⟨rfl, hc⟩
  exact wp_done ⟨rfl, rfl, hc⟩
theorem at_d (h : Hp) (a : Option Addr) (y : DeadS h a) (ver : Int) : Call c Tryz.prog 32 #[.pointer a, .int .i64 ver] h fun v h' => v = .tuple #[.pointer none, .int .i64 1] ∧ h' = h := by
  refine call_of layOk 30 Tryz.func32 Tryz.ntmps32 rfl rfl rfl rfl ?_
  refine wp_call (made_d h a y) ?_
  rintro _ h1 ⟨rfl, rfl⟩
  exact wp_brT rfl (wp_done ⟨rfl, rfl, rfl⟩)
theorem compare_d (h : Hp) (a : Option Addr) (y : DeadS h a) (p q : Int) : Call c Tryz.prog 51 #[.pointer a, .int .i64 p, .int .i64 q] h fun v h' => v = .tuple #[.slice none 0 0, .int .i64 1] ∧ h' = h := by
  refine call_of layOk 80 Tryz.func51 Tryz.ntmps51 rfl rfl rfl rfl ?_
  refine wp_call (made_d h a y) ?_
  rintro _ h1 ⟨rfl, rfl⟩
  exact wp_brT rfl (wp_done ⟨rfl, rfl, rfl⟩)
theorem undo_d (h : Hp) (a : Option Addr) (y : DeadS h a)  : Call c Tryz.prog 28 #[.pointer a] h fun v h' => v = .int .i64 1 ∧ h' = h := by
  refine call_of layOk 20 Tryz.func28 Tryz.ntmps28 rfl rfl rfl rfl ?_
  refine wp_call (made_d h a y) ?_
  rintro _ h1 ⟨rfl, rfl⟩
  exact wp_brT rfl (wp_done ⟨rfl, rfl, rfl⟩)
theorem redo_d (h : Hp) (a : Option Addr) (y : DeadS h a)  : Call c Tryz.prog 30 #[.pointer a] h fun v h' => v = .int .i64 1 ∧ h' = h := by
  refine call_of layOk 25 Tryz.func30 Tryz.ntmps30 rfl rfl rfl rfl ?_
  refine wp_call (made_d h a y) ?_
  rintro _ h1 ⟨rfl, rfl⟩
  exact wp_brT rfl (wp_done ⟨rfl, rfl, rfl⟩)
theorem copy_d (h : Hp) (a : Option Addr) (y : DeadS h a)  : Call c Tryz.prog 41 #[.pointer a] h fun v h' => v = .pointer none ∧ h' = h := by
  refine call_of layOk 22 Tryz.func41 Tryz.ntmps41 rfl rfl rfl rfl ?_
  refine wp_call (made_d h a y) ?_
  rintro _ h1 ⟨rfl, rfl⟩
  exact wp_brT rfl (wp_done ⟨rfl, rfl, rfl⟩)
theorem version_d (h : Hp) (a : Option Addr) (y : DeadS h a)  : Call c Tryz.prog 31 #[.pointer a] h fun v h' => v = .int .i64 0 ∧ h' = h := by
  refine call_of layOk 10 Tryz.func31 Tryz.ntmps31 rfl rfl rfl rfl ?_
  refine wp_call (made_d h a y) ?_
  rintro _ h1 ⟨rfl, rfl⟩
  exact wp_brT rfl (wp_done ⟨rfl, rfl, rfl⟩)
theorem moves_d (h : Hp) (a : Option Addr) (y : DeadS h a)  : Call c Tryz.prog 36 #[.pointer a] h fun v h' => v = .slice none 0 0 ∧ h' = h := by
  refine call_of layOk 30 Tryz.func36 Tryz.ntmps36 rfl rfl rfl rfl ?_
  refine wp_call (made_d h a y) ?_
  rintro _ h1 ⟨rfl, rfl⟩
  exact wp_brT rfl (wp_done ⟨rfl, rfl, rfl⟩)
theorem call_d (h : Hp) (a : Option Addr) (y : DeadS h a) (m : MoveR) (am : Option Addr) (cm : Nat) : Call c Tryz.prog 54 #[.pointer a, vMove m am cm] h fun v h' => v = .tuple #[.int .i64 0, .int .i64 1] ∧ Chg [] h h' := by
  refine call_of layOk 107 Tryz.func54 Tryz.ntmps54 rfl rfl rfl rfl ?_
  refine wp_new ?_
  intro b h1 hN
  have y := y.ext (hN.chg [])
  have hb : h1[b]? = some (.cells (elMove m am cm).toArray 54 (0, 0)) := hN.here
  have hc1 := hN.chg []
  refine wp_load (v := .int .i64 m.what) (ld_of hb rfl) ?_
  refine wp_br (fun _ => ?_) (fun _ => ?_)
  · refine wp_load (v := .string m.name) (ld_of hb rfl) ?_
    refine wp_load (v := .string m.owner) (ld_of hb rfl) ?_
    refine wp_call (clip_d h1 a y m.name m.owner) ?_
    rintro _ h2 ⟨rfl, hc⟩
    exact wp_done ⟨rfl, rfl, hc1.trans hc⟩
  · skip
    refine wp_br (fun _ => ?_) (fun _ => ?_)
    · refine wp_load (v := .int .i64 m.no) (ld_of hb rfl) ?_
      refine wp_load (v := vKind m.kind) (ld_of hb rfl) ?_
      refine wp_load (v := .int .i64 m.grams) (ld_of hb rfl) ?_
      refine wp_call (recv_d h1 a y m.no m.kind m.grams) ?_
      rintro _ h2 ⟨rfl, hc⟩
      exact wp_done ⟨rfl, rfl, hc1.trans hc⟩
    · skip
      refine wp_br (fun _ => ?_) (fun _ => ?_)
      · refine wp_load (v := .int .i64 m.no) (ld_of hb rfl) ?_
        refine wp_load (v := .int .i64 m.grams) (ld_of hb rfl) ?_
        refine wp_call (split_d h1 a y m.no m.grams) ?_
        rintro _ h2 ⟨rfl, hc⟩
        exact wp_done ⟨rfl, rfl, hc1.trans hc⟩
      · skip
        refine wp_br (fun _ => ?_) (fun _ => ?_)
        · refine wp_load (v := .slice am m.nos.length cm) (ld_of hb rfl) ?_
          refine wp_call (merge_d h1 a y m am cm) ?_
          rintro _ h2 ⟨rfl, hc⟩
          exact wp_done ⟨rfl, rfl, hc1.trans hc⟩
        · skip
          refine wp_br (fun _ => ?_) (fun _ => ?_)
          · refine wp_load (v := .int .i64 m.no) (ld_of hb rfl) ?_
            refine wp_load (v := .int .i64 m.grams) (ld_of hb rfl) ?_
            refine wp_call (core_d h1 a y m.no m.grams) ?_
            rintro _ h2 ⟨rfl, hc⟩
            exact wp_done ⟨rfl, rfl, hc1.trans hc⟩
          · skip
            refine wp_br (fun _ => ?_) (fun _ => ?_)
            · refine wp_load (v := .int .i64 m.no) (ld_of hb rfl) ?_
              refine wp_load (v := .int .i64 m.grams) (ld_of hb rfl) ?_
              refine wp_call (weigh_d h1 a y m.no m.grams) ?_
              rintro _ h2 ⟨rfl, hc⟩
              exact wp_done ⟨rfl, rfl, hc1.trans hc⟩
            · skip
              refine wp_br (fun _ => ?_) (fun _ => ?_)
              · refine wp_load (v := .int .i64 m.no) (ld_of hb rfl) ?_
                refine wp_call (hold_d h1 a y m.no) ?_
                rintro _ h2 ⟨rfl, hc⟩
                exact wp_done ⟨rfl, rfl, hc1.trans hc⟩
              · skip
                refine wp_br (fun _ => ?_) (fun _ => ?_)
                · refine wp_load (v := .int .i64 m.no) (ld_of hb rfl) ?_
                  refine wp_call (release_d h1 a y m.no) ?_
                  rintro _ h2 ⟨rfl, hc⟩
                  exact wp_done ⟨rfl, rfl, hc1.trans hc⟩
                · skip
                  refine wp_br (fun _ => ?_) (fun _ => ?_)
                  · refine wp_load (v := .int .i64 m.no) (ld_of hb rfl) ?_
                    refine wp_call (waste_d h1 a y m.no) ?_
                    rintro _ h2 ⟨rfl, hc⟩
                    exact wp_done ⟨rfl, rfl, hc1.trans hc⟩
                  · skip
                    refine wp_br (fun _ => ?_) (fun _ => ?_)
                    · refine wp_load (v := .string m.name) (ld_of hb rfl) ?_
                      refine wp_load (v := .slice am m.nos.length cm) (ld_of hb rfl) ?_
                      refine wp_call (lot_d h1 a y m am cm) ?_
                      rintro _ h2 ⟨rfl, hc⟩
                      exact wp_done ⟨rfl, rfl, hc1.trans hc⟩
                    · skip
                      refine wp_br (fun _ => ?_) (fun _ => ?_)
                      · refine wp_load (v := .string m.name) (ld_of hb rfl) ?_
                        refine wp_call (unlot_d h1 a y m.name) ?_
                        rintro _ h2 ⟨rfl, hc⟩
                        exact wp_done ⟨rfl, rfl, hc1.trans hc⟩
                      · skip
                        refine wp_br (fun _ => ?_) (fun _ => ?_)
                        · refine wp_load (v := .string m.name) (ld_of hb rfl) ?_
                          refine wp_call (send_d h1 a y m.name) ?_
                          rintro _ h2 ⟨rfl, hc⟩
                          exact wp_done ⟨rfl, rfl, hc1.trans hc⟩
                        · skip
                          refine wp_load (v := vMove m am cm) (ld_of hb rfl) ?_
                          refine wp_call (do_d h1 a y m am cm) ?_
                          rintro _ h2 ⟨rfl, hc⟩
                          exact wp_done ⟨rfl, rfl, hc1.trans hc⟩
end Go.Xe
