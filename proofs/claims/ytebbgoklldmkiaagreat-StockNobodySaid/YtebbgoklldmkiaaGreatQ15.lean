/- Lemmas on the way: Products and quotients of small numbers. A loop behind which nothing but a few temporaries is known: the terms stay small. -/
import Derived.Test.YtebbgoklldmkiaaGreatQ12
import Derived.Test.YtebbgoklldmkiaaGreatQ7
namespace Go.Xe
open Go Go.Proofs
set_option maxRecDepth 20000
variable {c : World}
theorem wu {x : Int} (h1 : 0 ≤ x) (h2 : x < 18446744073709551616) : IntKind.u64.wrap x = x := by
  unfold IntKind.wrap IntKind.bits IntKind.signed
  simp only [Bool.false_and, Bool.false_eq_true, if_false]
  have e1 : (2 : Int) ^ 64 = 18446744073709551616 := by decide
  rw [e1]
  omega
theorem and32 {x : Int} (h1 : 0 ≤ x) (h2 : x < 4294967296) : IntKind.u64.wrap (BitVec.ofInt IntKind.u64.bits x &&& BitVec.ofInt IntKind.u64.bits 4294967295).toNat = x := by
  show IntKind.u64.wrap (BitVec.ofInt 64 x &&& BitVec.ofInt 64 4294967295).toNat = x
  obtain ⟨n, rfl⟩ := Int.eq_ofNat_of_zero_le h1
  have e : BitVec.ofInt 64 (4294967295 : Int) = BitVec.ofNat 64 (2 ^ 32 - 1) := by decide
  rw [e, BitVec.ofInt_natCast, BitVec.toNat_and, BitVec.toNat_ofNat, BitVec.toNat_ofNat, Nat.mod_eq_of_lt (show n < 2 ^ 64 by omega), Nat.mod_eq_of_lt (show 2 ^ 32 - 1 < 2 ^ 64 by decide), Nat.and_two_pow_sub_one_eq_mod, Nat.mod_eq_of_lt (by omega)]
  exact wu (by omega) (by omega)
theorem shr32 (x : Int) : x.fdiv (2 ^ min (Int.toNat 32) IntKind.u64.bits) = x / 4294967296 := by
  have e : (2 : Int) ^ min (Int.toNat 32) IntKind.u64.bits = 4294967296 := by decide
  rw [e, Int.fdiv_eq_ediv_of_nonneg _ (by decide)]
theorem mul64_c (x y : Int) (h : Hp) (hx0 : 0 ≤ x) (hx : x ≤ 1073741824) (hy0 : 0 ≤ y) (hy : y ≤ 1073741824) :
    Call c Tryz.prog 260 #[.int .u64 x, .int .u64 y] h fun v h' => v = .tuple #[.int .u64 0, .int .u64 (x * y)] ∧ h' = h := by
  have hxy0 : 0 ≤ x * y := Int.mul_nonneg hx0 hy0
  have hxy : x * y ≤ 1073741824 * 1073741824 := Int.mul_le_mul hx hy hy0 (by decide)
  refine call_of layOk 51 Tryz.func260 Tryz.ntmps260 rfl rfl rfl rfl ?_
  repeat refine wp_chk (by decide) ?_
  refine wp_done ⟨rfl, ?_, rfl⟩
  refine congr (congrArg (fun a b => Value.tuple #[.int .u64 a, .int .u64 b]) ?_) ?_
  · have a1 := and32 hx0 (by omega : x < 4294967296)
    have a2 := and32 hy0 (by omega : y < 4294967296)
    have e1 : x / 4294967296 = 0 := by omega
    have e2 : y / 4294967296 = 0 := by omega
    have w0 : IntKind.u64.wrap 0 = 0 := by decide
    have wxy : IntKind.u64.wrap (x * y) = x * y := wu hxy0 (by omega)
    have wt : IntKind.u64.wrap (x * y / 4294967296) = x * y / 4294967296 := wu (by omega) (by omega)
    have at' := and32 (x := x * y / 4294967296) (by omega) (by omega)
    have et : x * y / 4294967296 / 4294967296 = 0 := by omega
    simp only [a1, a2, shr32, e1, e2, Int.zero_mul, Int.mul_zero, Int.add_zero, Int.zero_add, w0, wxy, wt, at', et]
  · exact wu hxy0 (by omega)
theorem div64_c (x y : Int) (h : Hp) (hx0 : 0 ≤ x) (hx : x < 18446744073709551616) (hy0 : 0 < y) (hy : y < 18446744073709551616) :
    Call c Tryz.prog 261 #[.int .u64 0, .int .u64 x, .int .u64 y] h fun v h' => v = .tuple #[.int .u64 (x / y), .int .u64 (x % y)] ∧ h' = h := by
  have hd : x.tdiv y = x / y := Int.tdiv_eq_ediv_of_nonneg hx0
  have hm : x.tmod y = x % y := Int.tmod_eq_emod_of_nonneg hx0
  have hq0 : 0 ≤ x / y := Int.ediv_nonneg hx0 (by omega)
  have hq1 : x / y ≤ x := Int.ediv_le_self _ hx0
  refine call_of layOk 135 Tryz.func261 Tryz.ntmps261 rfl rfl rfl rfl ?_
  refine wp_brF (by simp; omega) ?_
  refine wp_brF (decide_eq_false (by omega)) ?_
  refine wp_brT rfl ?_
  refine wp_ord layOk mixed [(0, 7)] [] (by kernel_rfl) ?_
  refine wp_chk (by omega) ?_
  refine wp_chk (by omega) ?_
  refine wp_done ⟨rfl, ?_, rfl⟩
  refine congr (congrArg (fun a b => Value.tuple #[.int .u64 a, .int .u64 b]) ?_) hm
  rw [hd, wu hq0 (by omega)]
theorem share_c (t w s : Int) (h : Hp) (ht0 : 0 ≤ t) (ht : t ≤ 1073741824) (hw0 : 0 ≤ w) (hw : w ≤ 1073741824) (hs0 : 0 < s) (hs : s < 4611686018427387904) :
    Call c Tryz.prog 235 #[.int .i64 t, .int .i64 w, .int .i64 s] h fun v h' => v = .tuple #[.int .i64 (t * w / s), .int .i64 (t * w % s)] ∧ h' = h := by
  have h0 : 0 ≤ t * w := Int.mul_nonneg ht0 hw0
  have h1 : t * w ≤ 1073741824 * 1073741824 := Int.mul_le_mul ht hw hw0 (by decide)
  have hq0 : 0 ≤ t * w / s := Int.ediv_nonneg h0 (by omega)
  have hq1 : t * w / s ≤ t * w := Int.ediv_le_self _ h0
  have hr0 : 0 ≤ t * w % s := Int.emod_nonneg _ (by omega)
  have hr1 : t * w % s < s := Int.emod_lt_of_pos _ hs0
  have e1 : IntKind.u64.wrap t = t := wu ht0 (by omega)
  have e2 : IntKind.u64.wrap w = w := wu hw0 (by omega)
  have e3 : IntKind.u64.wrap s = s := wu (by omega) (by omega)
  have hmul := mul64_c (c := c) t w h ht0 ht hw0 hw
  have hdiv := div64_c (c := c) (t * w) s h h0 (by omega) hs0 (by omega)
  refine call_of layOk 32 Tryz.func235 Tryz.ntmps235 rfl rfl rfl rfl ?_
  rw [← e1, ← e2] at hmul
  refine wp_call hmul ?_
  rintro _ _ ⟨rfl, rfl⟩
  rw [← e3] at hdiv
  rw [e1, e2]
  refine wp_call hdiv ?_
  rintro _ _ ⟨rfl, rfl⟩
  rw [e3]
  refine wp_done ⟨rfl, congr (congrArg (fun a b => Value.tuple #[.int .i64 a, .int .i64 b]) (w64 (by omega) (by omega))) (w64 (by omega) (by omega)), rfl⟩
end Go.Xe
namespace Go.Xe
open Go

def ovr : List Nat → List Value → Env → Env
  | k :: ks, v :: vs, ρ => fun t => bif Nat.beq t k then v else ovr ks vs ρ t
  | _, _, ρ => ρ

theorem ovr_self (ρ : Env) : ∀ ks : List Nat, ovr ks (ks.map ρ) ρ = ρ
  | [] => rfl
  | k :: ks => by
    funext t
    simp only [List.map_cons, ovr, ovr_self ρ ks]
    cases h : Nat.beq t k with
    | false => rfl
    | true => rw [Nat.eq_of_beq_eq_true h]; rfl

section
variable {L : Lay} {P : Program} {c : World} {ro : Option Nat} {n : Nat} {h : Hp} {Q : Exit → St → Hp → Prop}
theorem wp_loopK (hL : LayOk L P) {body : Code} {s : St} {k : Exit → St → X} (vs : List Nat) (lo hi : Nat) (hm : (modsIn vs lo hi body && noRF body) = true) (keep : List Nat) (kv : List Value) (hkv : keep.map s.ρ = kv) (ds0 : List Deferred) (hds : s.ds = ds0)
    (Inv : Nat → List Value → Hp → Prop) (j0 : Nat) (h0 : Inv j0 (vs.map s.ρ) h)
    (step : ∀ (ρ0 : Env) j g vals h', vals.length = vs.length → Inv j vals h' → (pe L n body ⟨hd vs vals lo hi g (ovr keep kv ρ0), ds0⟩ X.done).wp c P ro n h'
      (loopQ (fun s' h'' => ∃ j', j' < j ∧ Inv j' (vs.map s'.ρ) h'') (fun e s' h'' => (k e s').wp c P ro n h'' Q))) :
    (X.loop body s k).wp c P ro n h Q := by
  have e : s.ρ = ovr keep kv s.ρ := by rw [← hkv, ovr_self]
  refine wp_loopG hL vs lo hi hm Inv j0 h0 ?_
  intro j g vals h' h1 h2
  have := step s.ρ j g vals h' h1 h2
  rw [← e, ← hds] at this
  exact this
end
end Go.Xe
