/- Lemmas on the way: Totals are compared. StockNobody: the walk. -/
import Derived.Test.YtebbgoklldmkiaaGreatQ27
import Derived.Test.YtebbgoklldmkiaaGreatQ46
namespace Go.Xe
open Go Go.Proofs
set_option maxRecDepth 20000
def totB (a b : TotR) : Bool := a.inn == b.inn && a.air == b.air && a.live == b.live && a.cored == b.cored && a.wasted == b.wasted && a.sent == b.sent
theorem run_part_i64 (xs : Array Value) (i : Nat) (x : Value) (hx : xs[i]? = some x) (w : World) : (part 3 xs i).run Tryz.prog w = .ok x w := by
  have h : Tryz.prog.underlying 3 = some (.int .i64) := layOk.und 3 ti3 rfl
  unfold part
  simp [hx]
theorem tot_eq (d : Nat) (a b : TotR) (w : World) : (Op.equalIn (d + 2) 119 (vTot a) (vTot b)).run Tryz.prog w = .ok (totB a b) w := by
  have h5 : Tryz.prog.underlying 3 = some (.int .i64) := layOk.und 3 ti3 rfl
  have hu : Tryz.prog.underlying 119 = some ti119.desc := layOk.und 119 ti119 rfl
  have hfs : (Tryz.prog.fieldsOf 119).toList = [.mk "In" 3 0 false "" "" 0, .mk "Air" 3 1 false "" "" 8, .mk "Live" 3 2 false "" "" 16, .mk "Cored" 3 3 false "" "" 24, .mk "Wasted" 3 4 false "" "" 32, .mk "Sent" 3 5 false "" "" 40] := by
    unfold Program.fieldsOf
    rw [hu]
    rfl
  have ht : Tryz.prog.underlying 119 = some (.struct (Tryz.prog.fieldsOf 119)) := by
    unfold Program.fieldsOf
    rw [hu]
    rfl
  have pp : ∀ (x : TotR) (w : World), (part 3 #[.int .i64 x.inn, .int .i64 x.air, .int .i64 x.live, .int .i64 x.cored, .int .i64 x.wasted, .int .i64 x.sent] 0).run Tryz.prog w = .ok (.int .i64 x.inn) w ∧ (part 3 #[.int .i64 x.inn, .int .i64 x.air, .int .i64 x.live, .int .i64 x.cored, .int .i64 x.wasted, .int .i64 x.sent] 1).run Tryz.prog w = .ok (.int .i64 x.air) w ∧
      (part 3 #[.int .i64 x.inn, .int .i64 x.air, .int .i64 x.live, .int .i64 x.cored, .int .i64 x.wasted, .int .i64 x.sent] 2).run Tryz.prog w = .ok (.int .i64 x.live) w ∧ (part 3 #[.int .i64 x.inn, .int .i64 x.air, .int .i64 x.live, .int .i64 x.cored, .int .i64 x.wasted, .int .i64 x.sent] 3).run Tryz.prog w = .ok (.int .i64 x.cored) w ∧
      (part 3 #[.int .i64 x.inn, .int .i64 x.air, .int .i64 x.live, .int .i64 x.cored, .int .i64 x.wasted, .int .i64 x.sent] 4).run Tryz.prog w = .ok (.int .i64 x.wasted) w ∧ (part 3 #[.int .i64 x.inn, .int .i64 x.air, .int .i64 x.live, .int .i64 x.cored, .int .i64 x.wasted, .int .i64 x.sent] 5).run Tryz.prog w = .ok (.int .i64 x.sent) w := fun x w =>
    ⟨run_part_i64 _ _ _ rfl w, run_part_i64 _ _ _ rfl w, run_part_i64 _ _ _ rfl w, run_part_i64 _ _ _ rfl w, run_part_i64 _ _ _ rfl w, run_part_i64 _ _ _ rfl w⟩
  have ee : ∀ (x y : Int) (w : World), (Op.equalIn (d + 1) 3 (.int .i64 x) (.int .i64 y)).run Tryz.prog w = .ok (x == y) w := fun x y w => run_equalIn_int w d 3 .i64 .i64 x y h5
  unfold vTot
  rw [run_equalIn_agg w (d + 1) 119 _ _ ht (by kernel_rfl), hfs]
  have n1 : ∀ s : String, s ∈ ["In", "Air", "Live", "Cored", "Wasted", "Sent"] → s ≠ "_" := by decide
  unfold totB
  simp only [Op.eqFields, n1 "In" (by simp), n1 "Air" (by simp), n1 "Live" (by simp), n1 "Cored" (by simp), n1 "Wasted" (by simp), n1 "Sent" (by simp), if_true, ne_eq, not_false_eq_true, Sem.run_bind, (pp a _).1, (pp b _).1, Result.andThen_ok, ee]
  cases h0 : a.inn == b.inn with
  | false => simp
  | true =>
    simp only [Bool.not_true, Bool.false_eq_true, if_false, Bool.true_and, Sem.run_bind, (pp a _).2.1, (pp b _).2.1, Result.andThen_ok, ee]
    cases h1 : a.air == b.air with
    | false => simp
    | true =>
      simp only [Bool.not_true, Bool.false_eq_true, if_false, Bool.true_and, Sem.run_bind, (pp a _).2.2.1, (pp b _).2.2.1, Result.andThen_ok, ee]
      cases h2 : a.live == b.live with
      | false => simp
      | true =>
        simp only [Bool.not_true, Bool.false_eq_true, if_false, Bool.true_and, Sem.run_bind, (pp a _).2.2.2.1, (pp b _).2.2.2.1, Result.andThen_ok, ee]
        cases h3 : a.cored == b.cored with
        | false => simp
        | true =>
          simp only [Bool.not_true, Bool.false_eq_true, if_false, Bool.true_and, Sem.run_bind, (pp a _).2.2.2.2.1, (pp b _).2.2.2.2.1, Result.andThen_ok, ee]
          cases h4 : a.wasted == b.wasted with
          | false => simp
          | true =>
            simp only [Bool.not_true, Bool.false_eq_true, if_false, Bool.true_and, Sem.run_bind, (pp a _).2.2.2.2.2, (pp b _).2.2.2.2.2, Result.andThen_ok, ee]
            cases h5 : a.sent == b.sent <;> simp
theorem tot_guard (op : BinOp) (xo yo : Operand) (a b : TotR) (w : World) : (eqGuard op 119 xo yo (vTot a) (vTot b)).run Tryz.prog w = .ok () w :=
  run_eqGuard_agg w op 119 xo yo _ _ (by kernel_rfl)
theorem run_totNe (xo yo : Operand) (a b : TotR) (w : World) : (do eqGuard .neq 119 xo yo (vTot a) (vTot b); binOp .neq 119 (vTot a) (vTot b) : Sem Value).run Tryz.prog w = .ok (.bool (!totB a b)) w := by
  simp only [Sem.run_bind, tot_guard, Result.andThen_ok]
  unfold vTot
  rw [run_neq_struct]
  have := tot_eq 9998 a b w
  unfold vTot at this
  rw [this]
  rfl
theorem run_totEq (xo yo : Operand) (a b : TotR) (w : World) : (do eqGuard .eql 119 xo yo (vTot a) (vTot b); binOp .eql 119 (vTot a) (vTot b) : Sem Value).run Tryz.prog w = .ok (.bool (totB a b)) w := by
  simp only [Sem.run_bind, tot_guard, Result.andThen_ok]
  unfold vTot
  rw [run_eql_struct]
  have := tot_eq 9998 a b w
  unfold vTot at this
  rw [this]
  rfl
end Go.Xe
namespace Go.Xe
open Go Go.Proofs
set_option maxRecDepth 20000
variable {c : World}
def zσ : StateR := ⟨[], [], [], [], []⟩
theorem clips0_c (h : Hp) (a : Option Addr) (y : VwIs h a zStP false) : Call c Tryz.prog 33 #[.pointer a] h fun v h' => ∃ a' cap', v = .slice a' 0 cap' ∧ Chg [] h h' := by
  refine (clips_c (c := c) [] h a zStP false zσ (by intro m hm; cases hm) y .zero (by decide)).mono ?_
  rintro v h' ⟨hc, a', cap', _, rfl, _⟩
  exact ⟨a', cap', rfl, hc⟩
theorem bales0_c (h : Hp) (a : Option Addr) (y : VwIs h a zStP false) : Call c Tryz.prog 19 #[.pointer a] h fun v h' => ∃ a' cap', v = .slice a' 0 cap' ∧ Chg [] h h' := by
  refine (bales_c (c := c) [] h a zStP false zσ (by intro m hm; cases hm) y .zero (by decide) (fun x hx => by cases hx)).mono ?_
  rintro v h' ⟨hc, a', cap', _, L, rfl, hL, _⟩
  have : L = [] := by simpa [zσ] using hL
  subst this
  exact ⟨a', cap', rfl, hc⟩
theorem lots0_c (h : Hp) (a : Option Addr) (y : VwIs h a zStP false) : Call c Tryz.prog 20 #[.pointer a] h fun v h' => ∃ a' cap', v = .slice a' 0 cap' ∧ Chg [] h h' := by
  refine (lots_c (c := c) [] h a zStP false zσ (by intro m hm; cases hm) y .zero (by decide) (fun x hx => by cases hx)).mono ?_
  rintro v h' ⟨hc, a', cap', _, L, rfl, hL, _⟩
  have : L = [] := by simpa [zσ] using hL
  subst this
  exact ⟨a', cap', rfl, hc⟩
theorem nobody_c (m : MoveR) (am : Option Addr) (cm : Nat) (plain : Bool) (h : Hp) : Call c Tryz.prog 14 #[vMove m am cm, .bool plain] h fun v h' => v = .bool true ∧ Chg [] h h' := by
  refine call_of layOk 194 Tryz.func14 Tryz.ntmps14 rfl rfl rfl rfl ?_
  refine wp_new ?_
  intro b2 h1 hN1
  cases plain with
  | false =>
    refine wp_brF rfl ?_
    have hS : DeadS h1 none := .inl rfl
    have hV : VwIs h1 none zStP false := .inl ⟨rfl, rfl, rfl⟩
    have hb : h1[b2]? = some (.cells (elMove m am cm).toArray 54 (0, 0)) := hN1.here
    have hc := hN1.chg []
    refine wp_load (v := vMove m am cm) (ld_of hb rfl) ?_
    refine wp_call (do_d _ _ hS m am cm) ?_
    rintro _ k1 ⟨rfl, c1⟩
    have hb := c1.of hb (by simp)
    have hS := hS.ext c1
    have hV := hV.ext c1
    have hc := hc.trans c1
    refine wp_load (v := vMove m am cm) (ld_of hb rfl) ?_
    refine wp_call (call_d _ _ hS m am cm) ?_
    rintro _ k2 ⟨rfl, c2⟩
    have hb := c2.of hb (by simp)
    have hS := hS.ext c2
    have hV := hV.ext c2
    have hc := hc.trans c2
    refine wp_call (at_d _ _ hS 0) ?_
    rintro _ k2 ⟨rfl, rfl⟩
    refine wp_call (compare_d _ _ hS 0 0) ?_
    rintro _ k2 ⟨rfl, rfl⟩
    repeat (first | refine wp_brT rfl ?_ | refine wp_brF rfl ?_)
    refine wp_call (undo_d _ _ hS) ?_
    rintro _ k2 ⟨rfl, rfl⟩
    repeat (first | refine wp_brT rfl ?_ | refine wp_brF rfl ?_)
    refine wp_call (redo_d _ _ hS) ?_
    rintro _ k2 ⟨rfl, rfl⟩
    repeat (first | refine wp_brT rfl ?_ | refine wp_brF rfl ?_)
    refine wp_call (copy_d _ _ hS) ?_
    rintro _ k2 ⟨rfl, rfl⟩
    repeat (first | refine wp_brT rfl ?_ | refine wp_brF rfl ?_)
    refine wp_call (version_d _ _ hS) ?_
    rintro _ k2 ⟨rfl, rfl⟩
    repeat (first | refine wp_brT rfl ?_ | refine wp_brF rfl ?_)
    refine wp_call (moves_d _ _ hS) ?_
    rintro _ k2 ⟨rfl, rfl⟩
    repeat (first | refine wp_brT rfl ?_ | refine wp_brF rfl ?_)
    refine wp_load (v := .int .i64 m.no) (ld_of hb rfl) ?_
    refine wp_call (bale_c [] _ _ zStP false zσ m.no hV .zero (fun r hr => by cases hr)) ?_
    rintro _ k3 ⟨c3, rfl⟩
    have hb := c3.of hb (by simp)
    have hV := hV.ext c3
    have hc := hc.trans c3
    refine wp_new ?_
    intro b15 k4 n4
    refine wp_store n4.here (by rfl) ?_
    intro k5 u5
    have c5 : Chg [] k3 k5 := u5.chgGe (n4.chg []) n4.le
    have e15 : k5[b15]? = some (.cells (elBale zBaleR zBalP).toArray 42 (0, 0)) := u5.here
    have hb := c5.of hb (by simp)
    have hV := hV.ext c5
    have hc := hc.trans c5
    refine wp_load (v := .string m.name) (ld_of hb rfl) ?_
    refine wp_call (lot_c [] _ _ zStP false zσ m.name hV .zero (fun r hr => by cases hr)) ?_
    rintro _ k6 ⟨c6, rfl⟩
    have hb := c6.of hb (by simp)
    have hV := hV.ext c6
    have hc := hc.trans c6
    have e15 := c6.of e15 (by simp)
    refine wp_new ?_
    intro b16 k7 n7
    refine wp_store n7.here (by rfl) ?_
    intro k8 u8
    have c8 : Chg [] k6 k8 := u8.chgGe (n7.chg []) n7.le
    have e16 : k8[b16]? = some (.cells (elLot zLotR none 0).toArray 36 (0, 0)) := u8.here
    have hb := c8.of hb (by simp)
    have hV := hV.ext c8
    have hc := hc.trans c8
    have e15 := c8.of e15 (by simp)
    refine wp_load (v := .int .i64 m.no) (ld_of hb rfl) ?_
    refine wp_call (totals_c [] _ _ zStP false zσ m.no hV .zero) ?_
    rintro _ k9 ⟨c9, rfl⟩
    have hb := c9.of hb (by simp)
    have hV := hV.ext c9
    have hc := hc.trans c9
    have e15 := c9.of e15 (by simp)
    have e16 := c9.of e16 (by simp)
    refine wp_new ?_
    intro b17 k10 n10
    refine wp_store n10.here (by rfl) ?_
    intro k11 u11
    have c11 : Chg [] k9 k11 := u11.chgGe (n10.chg []) n10.le
    have e17 : k11[b17]? = some (.cells (elTot zTotR).toArray 119 (0, 0)) := u11.here
    have hb := c11.of hb (by simp)
    have hV := hV.ext c11
    have hc := hc.trans c11
    have e15 := c11.of e15 (by simp)
    have e16 := c11.of e16 (by simp)
    refine wp_load (v := .int .i64 m.no) (ld_of hb rfl) ?_
    refine wp_call (sourcesN_c [] _ _ zStP false zσ m.no hV .zero rfl) ?_
    rintro _ k12 ⟨c12, rfl⟩
    have hb := c12.of hb (by simp)
    have hV := hV.ext c12
    have hc := hc.trans c12
    have e15 := c12.of e15 (by simp)
    have e16 := c12.of e16 (by simp)
    have e17 := c12.of e17 (by simp)
    refine wp_load (v := .int .i64 m.no) (ld_of hb rfl) ?_
    refine wp_call (heirsN_c [] _ _ zStP false zσ m.no hV .zero rfl) ?_
    rintro _ k13 ⟨c13, rfl⟩
    have hV := hV.ext c13
    have hc := hc.trans c13
    have e15 := c13.of e15 (by simp)
    have e16 := c13.of e16 (by simp)
    have e17 := c13.of e17 (by simp)
    repeat (first | refine wp_brT rfl ?_ | refine wp_brF rfl ?_)
    refine wp_load (v := vBale zBaleR zBalP) (ld_of e15 rfl) ?_
    refine wp_call (sameZ_c k13) ?_
    rintro _ k14 ⟨rfl, c14⟩
    have hV := hV.ext c14
    have hc := hc.trans c14
    have e16 := c14.of e16 (by simp)
    have e17 := c14.of e17 (by simp)
    repeat (first | refine wp_brT rfl ?_ | refine wp_brF rfl ?_)
    refine wp_load (v := .string ⟨#[]⟩) (ld_of e16 rfl) ?_
    repeat (first | refine wp_brT rfl ?_ | refine wp_brF rfl ?_)
    refine wp_brT (by kernel_rfl) ?_
    repeat (first | refine wp_brT rfl ?_ | refine wp_brF rfl ?_)
    refine wp_load (v := vTot zTotR) (ld_of e17 rfl) ?_
    repeat (first | refine wp_brT rfl ?_ | refine wp_brF rfl ?_)
    refine wp_sem0 (.bool true) (fun w => run_totEq _ _ zTotR zTotR w) ?_
    repeat (first | refine wp_brT rfl ?_ | refine wp_brF rfl ?_)
    refine wp_call (clips0_c _ _ hV) ?_
    rintro _ k15 ⟨x1, x2, rfl, c15⟩
    have hV := hV.ext c15
    have hc := hc.trans c15
    repeat (first | refine wp_brT rfl ?_ | refine wp_brF rfl ?_)
    refine wp_call (bales0_c _ _ hV) ?_
    rintro _ k16 ⟨x3, x4, rfl, c16⟩
    have hV := hV.ext c16
    have hc := hc.trans c16
    repeat (first | refine wp_brT rfl ?_ | refine wp_brF rfl ?_)
    refine wp_call (lots0_c _ _ hV) ?_
    rintro _ k17 ⟨x5, x6, rfl, c17⟩
    have hc := hc.trans c17
    repeat (first | refine wp_brT rfl ?_ | refine wp_brF rfl ?_)
    refine wp_call (alive_c k17) ?_
    rintro _ k18 ⟨rfl, c18⟩
    repeat (first | refine wp_brT rfl ?_ | refine wp_brF rfl ?_)
    exact wp_done ⟨rfl, rfl, hc.trans c18⟩
  | true =>
    refine wp_brT rfl ?_
    refine wp_new ?_
    intro bs h2 hN2
    refine wp_new ?_
    intro bv h3 hN3
    have hS : DeadS h3 (some ⟨bs, 0, none⟩) := .inr ⟨bs, rfl, hN3.of hN2.here⟩
    have hV : VwIs h3 (some ⟨bv, 0, none⟩) zStP false := .inr ⟨bv, rfl, hN3.here, fun _ => rfl⟩
    have hb : h3[b2]? = some (.cells (elMove m am cm).toArray 54 (0, 0)) := hN3.of (hN2.of hN1.here)
    have hc : Chg [] h h3 := ((hN1.chg []).trans (hN2.chg [])).trans (hN3.chg [])
    refine wp_load (v := vMove m am cm) (ld_of hb rfl) ?_
    refine wp_call (do_d _ _ hS m am cm) ?_
    rintro _ k1 ⟨rfl, c1⟩
    have hb := c1.of hb (by simp)
    have hS := hS.ext c1
    have hV := hV.ext c1
    have hc := hc.trans c1
    refine wp_load (v := vMove m am cm) (ld_of hb rfl) ?_
    refine wp_call (call_d _ _ hS m am cm) ?_
    rintro _ k2 ⟨rfl, c2⟩
    have hb := c2.of hb (by simp)
    have hS := hS.ext c2
    have hV := hV.ext c2
    have hc := hc.trans c2
    refine wp_call (at_d _ _ hS 0) ?_
    rintro _ k2 ⟨rfl, rfl⟩
    refine wp_call (compare_d _ _ hS 0 0) ?_
    rintro _ k2 ⟨rfl, rfl⟩
    repeat (first | refine wp_brT rfl ?_ | refine wp_brF rfl ?_)
    refine wp_call (undo_d _ _ hS) ?_
    rintro _ k2 ⟨rfl, rfl⟩
    repeat (first | refine wp_brT rfl ?_ | refine wp_brF rfl ?_)
    refine wp_call (redo_d _ _ hS) ?_
    rintro _ k2 ⟨rfl, rfl⟩
    repeat (first | refine wp_brT rfl ?_ | refine wp_brF rfl ?_)
    refine wp_call (copy_d _ _ hS) ?_
    rintro _ k2 ⟨rfl, rfl⟩
    repeat (first | refine wp_brT rfl ?_ | refine wp_brF rfl ?_)
    refine wp_call (version_d _ _ hS) ?_
    rintro _ k2 ⟨rfl, rfl⟩
    repeat (first | refine wp_brT rfl ?_ | refine wp_brF rfl ?_)
    refine wp_call (moves_d _ _ hS) ?_
    rintro _ k2 ⟨rfl, rfl⟩
    repeat (first | refine wp_brT rfl ?_ | refine wp_brF rfl ?_)
    refine wp_load (v := .int .i64 m.no) (ld_of hb rfl) ?_
    refine wp_call (bale_c [] _ _ zStP false zσ m.no hV .zero (fun r hr => by cases hr)) ?_
    rintro _ k3 ⟨c3, rfl⟩
    have hb := c3.of hb (by simp)
    have hV := hV.ext c3
    have hc := hc.trans c3
    refine wp_new ?_
    intro b15 k4 n4
    refine wp_store n4.here (by rfl) ?_
    intro k5 u5
    have c5 : Chg [] k3 k5 := u5.chgGe (n4.chg []) n4.le
    have e15 : k5[b15]? = some (.cells (elBale zBaleR zBalP).toArray 42 (0, 0)) := u5.here
    have hb := c5.of hb (by simp)
    have hV := hV.ext c5
    have hc := hc.trans c5
    refine wp_load (v := .string m.name) (ld_of hb rfl) ?_
    refine wp_call (lot_c [] _ _ zStP false zσ m.name hV .zero (fun r hr => by cases hr)) ?_
    rintro _ k6 ⟨c6, rfl⟩
    have hb := c6.of hb (by simp)
    have hV := hV.ext c6
    have hc := hc.trans c6
    have e15 := c6.of e15 (by simp)
    refine wp_new ?_
    intro b16 k7 n7
    refine wp_store n7.here (by rfl) ?_
    intro k8 u8
    have c8 : Chg [] k6 k8 := u8.chgGe (n7.chg []) n7.le
    have e16 : k8[b16]? = some (.cells (elLot zLotR none 0).toArray 36 (0, 0)) := u8.here
    have hb := c8.of hb (by simp)
    have hV := hV.ext c8
    have hc := hc.trans c8
    have e15 := c8.of e15 (by simp)
    refine wp_load (v := .int .i64 m.no) (ld_of hb rfl) ?_
    refine wp_call (totals_c [] _ _ zStP false zσ m.no hV .zero) ?_
    rintro _ k9 ⟨c9, rfl⟩
    have hb := c9.of hb (by simp)
    have hV := hV.ext c9
    have hc := hc.trans c9
    have e15 := c9.of e15 (by simp)
    have e16 := c9.of e16 (by simp)
    refine wp_new ?_
    intro b17 k10 n10
    refine wp_store n10.here (by rfl) ?_
    intro k11 u11
    have c11 : Chg [] k9 k11 := u11.chgGe (n10.chg []) n10.le
    have e17 : k11[b17]? = some (.cells (elTot zTotR).toArray 119 (0, 0)) := u11.here
    have hb := c11.of hb (by simp)
    have hV := hV.ext c11
    have hc := hc.trans c11
    have e15 := c11.of e15 (by simp)
    have e16 := c11.of e16 (by simp)
    refine wp_load (v := .int .i64 m.no) (ld_of hb rfl) ?_
    refine wp_call (sourcesN_c [] _ _ zStP false zσ m.no hV .zero rfl) ?_
    rintro _ k12 ⟨c12, rfl⟩
    have hb := c12.of hb (by simp)
    have hV := hV.ext c12
    have hc := hc.trans c12
    have e15 := c12.of e15 (by simp)
    have e16 := c12.of e16 (by simp)
    have e17 := c12.of e17 (by simp)
    refine wp_load (v := .int .i64 m.no) (ld_of hb rfl) ?_
    refine wp_call (heirsN_c [] _ _ zStP false zσ m.no hV .zero rfl) ?_
    rintro _ k13 ⟨c13, rfl⟩
    have hV := hV.ext c13
    have hc := hc.trans c13
    have e15 := c13.of e15 (by simp)
    have e16 := c13.of e16 (by simp)
    have e17 := c13.of e17 (by simp)
    repeat (first | refine wp_brT rfl ?_ | refine wp_brF rfl ?_)
    refine wp_load (v := vBale zBaleR zBalP) (ld_of e15 rfl) ?_
    refine wp_call (sameZ_c k13) ?_
    rintro _ k14 ⟨rfl, c14⟩
    have hV := hV.ext c14
    have hc := hc.trans c14
    have e16 := c14.of e16 (by simp)
    have e17 := c14.of e17 (by simp)
    repeat (first | refine wp_brT rfl ?_ | refine wp_brF rfl ?_)
    refine wp_load (v := .string ⟨#[]⟩) (ld_of e16 rfl) ?_
    repeat (first | refine wp_brT rfl ?_ | refine wp_brF rfl ?_)
    refine wp_brT (by kernel_rfl) ?_
    repeat (first | refine wp_brT rfl ?_ | refine wp_brF rfl ?_)
    refine wp_load (v := vTot zTotR) (ld_of e17 rfl) ?_
    repeat (first | refine wp_brT rfl ?_ | refine wp_brF rfl ?_)
    refine wp_sem0 (.bool true) (fun w => run_totEq _ _ zTotR zTotR w) ?_
    repeat (first | refine wp_brT rfl ?_ | refine wp_brF rfl ?_)
    refine wp_call (clips0_c _ _ hV) ?_
    rintro _ k15 ⟨x1, x2, rfl, c15⟩
    have hV := hV.ext c15
    have hc := hc.trans c15
    repeat (first | refine wp_brT rfl ?_ | refine wp_brF rfl ?_)
    refine wp_call (bales0_c _ _ hV) ?_
    rintro _ k16 ⟨x3, x4, rfl, c16⟩
    have hV := hV.ext c16
    have hc := hc.trans c16
    repeat (first | refine wp_brT rfl ?_ | refine wp_brF rfl ?_)
    refine wp_call (lots0_c _ _ hV) ?_
    rintro _ k17 ⟨x5, x6, rfl, c17⟩
    have hc := hc.trans c17
    repeat (first | refine wp_brT rfl ?_ | refine wp_brF rfl ?_)
    refine wp_call (alive_c k17) ?_
    rintro _ k18 ⟨rfl, c18⟩
    repeat (first | refine wp_brT rfl ?_ | refine wp_brF rfl ?_)
    exact wp_done ⟨rfl, rfl, hc.trans c18⟩
end Go.Xe
