/- THE STATEMENT StockNobody IS PROVED AS IT IS GIVEN: for every change m and every bool, in whatever memory, the call returns true, without a race, and the arguments read behind it as they read before. No condition. -/
import Derived.Test.YtebbgoklldmkiaaGreatRows
import Derived.WalkKit
import Derived.ProofKit
import Derived.OpenShut
import Derived.ShutString
import Derived.ChangeOld
import Derived.Below
import Derived.SizedLaws
import Derived.Carry
import Derived.Test.YtebbgoklldmkiaaGreatQ47
import Derived.Test.YtebbgoklldmkiaaGreatQ49
namespace Go.Proofs.YtebbgoklldmkiaaGreat
open Go.ChangeShapes Go.WideShapes Go.ChangeAt Go.RowKit Go.Xe
namespace StockKit
theorem own : ownKnob Tryz.prog.godebug = none := by kernel_rfl
theorem laidOut : laidOutB Tryz.prog = true := by kernel_rfl
section
variable {P : Program} {w : World} {r : Reach} {base : Nat} {t : TypeId} {v : Value}
theorem cell_int {k : IntKind} (hu : P.underlying t = some (.int k)) (h : Cell.okWide P w r base t v) : ∃ n, v = .int k n := by
  unfold Cell.okWide at h
  rw [hu] at h
  cases v <;> simp [Cell.ok, hu] at h
  rename_i k' n
  exact ⟨n, by rw [h.1]⟩
theorem cell_str (hu : P.underlying t = some .string) (h : Cell.okWide P w r base t v) : ∃ s, v = .string s := by
  unfold Cell.okWide at h
  rw [hu] at h
  cases v <;> simp [Cell.ok, hu] at h
  exact ⟨_, rfl⟩
theorem cell_slice {e : TypeId} (hu : P.underlying t = some (.slice e)) (h : Cell.okWide P w r base t v) : ∃ a len cap, v = .slice a len cap := by
  unfold Cell.okWide at h
  rw [hu] at h
  cases v <;> simp [Cell.ok, hu] at h
  exact ⟨_, _, _, rfl⟩
end
theorem array10 (cs : Array Value) (h : cs.size = 10) : cs = #[cs[0], cs[1], cs[2], cs[3], cs[4], cs[5], cs[6], cs[7], cs[8], cs[9]] := by
  apply Array.ext
  · exact h
  · intro i h1 h2
    have h2 : i < 10 := by simpa using h2
    match i, h2 with
    | 0, _ | 1, _ | 2, _ | 3, _ | 4, _ | 5, _ | 6, _ | 7, _ | 8, _ | 9, _ => rfl
set_option maxRecDepth 100000 in
theorem move_shape {w : World} {base : Nat} {v : Value} (h : Value.okWide Tryz.prog w .any base 54 v) : ∃ (m : MoveR) (a : Option Addr) (cap : Nat), v = vMove m a cap := by
  have hu : Tryz.prog.underlying 54 = some ti54.desc := layOk.und 54 ti54 rfl
  unfold Value.okWide at h
  rw [hu] at h
  obtain ⟨cs, rfl, hs, ts, hts, _, hc⟩ := h
  have hs : cs.size = 10 := hs.trans (by kernel_rfl)
  have hts' : Tryz.prog.cellTypes Tryz.prog.depth 54 = some [3, 3, 34, 3, 5, 5, 5, 5, 9, 9] := by kernel_rfl
  rw [hts'] at hts
  cases hts
  have hi := layOk.und 3 ti3 rfl
  have hb := layOk.und 5 ti5 rfl
  have hst := layOk.und 9 ti9 rfl
  have hsl := layOk.und 34 ti34 rfl
  have at_ : ∀ (i : Nat) (hl : i < cs.size) (u : TypeId), [3, 3, 34, 3, 5, 5, 5, 5, 9, 9][i % 10]? = some u → Cell.okWide Tryz.prog w .any base u cs[i] := by
    intro i hl u hu
    obtain ⟨u', h1, h2⟩ := hc i cs[i] (Array.getElem?_eq_getElem hl)
    rw [show ([3, 3, 34, 3, 5, 5, 5, 5, 9, 9] : List TypeId).length = 10 from rfl, hu] at h1
    cases h1
    exact h2
  obtain ⟨x0, e0⟩ := cell_int hi (at_ 0 (by omega) 3 rfl)
  obtain ⟨x1, e1⟩ := cell_int hi (at_ 1 (by omega) 3 rfl)
  obtain ⟨a, len, cap, e2⟩ := cell_slice hsl (at_ 2 (by omega) 34 rfl)
  obtain ⟨x3, e3⟩ := cell_int hi (at_ 3 (by omega) 3 rfl)
  obtain ⟨x4, e4⟩ := cell_int hb (at_ 4 (by omega) 5 rfl)
  obtain ⟨x5, e5⟩ := cell_int hb (at_ 5 (by omega) 5 rfl)
  obtain ⟨x6, e6⟩ := cell_int hb (at_ 6 (by omega) 5 rfl)
  obtain ⟨x7, e7⟩ := cell_int hb (at_ 7 (by omega) 5 rfl)
  obtain ⟨x8, e8⟩ := cell_str hst (at_ 8 (by omega) 9 rfl)
  obtain ⟨x9, e9⟩ := cell_str hst (at_ 9 (by omega) 9 rfl)
  refine ⟨⟨x0, x1, List.replicate len 0, x3, ⟨x4, x5, x6, x7⟩, x8, x9⟩, a, cap, ?_⟩
  unfold vMove
  rw [array10 cs hs, e0, e1, e2, e3, e4, e5, e6, e7, e8, e9, List.length_replicate]
/-- a contract over heaps, as the rows ask for it -/
theorem calls_of {f : Nat} {args : Array Value} {W : World} (h : Go.Xe.Call W Tryz.prog f args W.heap fun v h' => v = .bool true ∧ Chg [] W.heap h') : Calls Tryz.prog f args W fun e W' => e = .returned (.bool true) ∧ Below W.heap.size W W' := by
  refine (h.2 W rfl ⟨rfl, rfl, rfl⟩).mono ?_
  intro e W' he
  cases e with
  | returned v =>
    obtain ⟨hc, rfl, hch⟩ := he
    exact ⟨rfl, hc.os, hc.tape, hc.output, hch.size, fun k hk => hch.same k hk (by simp)⟩
  | _ => exact he.elim
end StockKit
open StockKit
set_option maxRecDepth 100000 in
theorem nobody_lifted (os : Os) (started : os.Started) (H : Type) (enc : TypeId × Value → H) :
    ReturnsInHanded {} Tryz.checked os 14 .any (Rows.stockNobodySpec.pre6 enc Tryz.prog Tryz.f14 Rows.stockNobodyRow.domain false) (Rows.stockNobodySpec.post enc Tryz.prog Tryz.f14 false true false false) := by
  refine returnsInHanded_of_change_sized (C := Tryz.checked) own started (by kernel_rfl) Tryz.func14
    (ChangeSpec.witness6 (enc := enc) (C := Tryz.checked) false ⟨#[], #[.agg #[.int .i64 0, .int .i64 0, .slice none 0 0, .int .i64 0, .int .u8 0, .int .u8 0, .int .u8 0, .int .u8 0, .string ⟨#[]⟩, .string ⟨#[]⟩], .bool false], []⟩ 8 (by kernel_rfl) (by kernel_rfl) (by kernel_rfl) (by kernel_rfl)) ?_
  intro W base args ds gs before hval0 hW hcnd hsz0 _
  have hval : ∀ (j : Nat) t v, Tryz.f14.params[j]? = some t → args[j]? = some v → Value.okWide Tryz.prog W .any base t v := hval0
  have hW' := hW
  obtain ⟨p, q, hA0, hV, rfl, hfz, hnd⟩ := hW
  have hA : DataW.TrodAll enc Tryz.prog W 0 (fun _ => true) true Tryz.f14.params.toList args.toList ds p := hA0
  rw [Tryz.params14] at hA hval
  obtain ⟨v0, vs0, d0, ds0, p0, q0, hargs, rfl, rfl, h0, r0⟩ := trodAll_cons hA
  obtain ⟨v1, vs1, d1, ds1, p1, q1, rfl, rfl, rfl, h1, r1⟩ := trodAll_cons r0
  obtain ⟨rfl, rfl, rfl⟩ := trodAll_nil r1
  obtain rfl : args = #[v0, v1] := by cases args; simp_all
  obtain ⟨rfl, rfl⟩ := trodVars_none hV
  have k0 := h0
  have lt0 : ∀ x ∈ p0, x.block < W.heap.size := by obtain ⟨m, hm⟩ := k0; exact DataW.trod_lt m _ _ _ hm
  obtain ⟨m, am, cm, rfl⟩ := move_shape (hval 0 54 v0 rfl rfl)
  obtain ⟨a1, rfl, rfl, rfl⟩ := open_bool Tryz.underlying4 (hval 1 4 v1 rfl rfl) h1
  clear hA0 hval0 hsz0
  refine (calls_of (nobody_c m am cm a1 W.heap)).mono fun e W' ⟨he, bel⟩ => ?_
  subst he
  exact ⟨_, rfl, _, _, _, [], _, [], hW', trodAll_mk1 (shut_bool Tryz.underlying4 _), (trodAll_cons_mk (Below.trod laidOut (by kernel_rfl) (of_decide_eq_true (by kernel_rfl)) k0 bel lt0) (trodAll_cons_mk (shut_bool Tryz.underlying4 _) trodAll_mk0)), rfl, bel.frame _, fun h => by cases h⟩
theorem stockNobody_holds : Rows.StockNobodySaid :=
  OpenClaim.holds_of_wide 14 Tryz.f14 rfl rfl rfl rfl rfl rfl rfl ⟨rfl, rfl, rfl, rfl, rfl⟩ rfl rfl rfl rfl rfl (by kernel_rfl) Tryz.func14 FactsStockNobody.all
    (of_decide_eq_true (by kernel_rfl)) (by unfold Func.isWrapper; first | (rw [if_pos (by decide +kernel)]; kernel_rfl) | (rw [if_neg (by decide +kernel)]; exact ⟨rfl, rfl⟩))
    (fun os started H enc _ => nobody_lifted os started H enc)
#print axioms stockNobody_holds
end Go.Proofs.YtebbgoklldmkiaaGreat
