/- Lemmas on the way: Kinds are compared. The library's sort of whole numbers, as it lies in this program. slices.Sorted(slices.Values(..)). Sorting whole numbers: by insertion; it is the sorted list. -/
import Derived.Laws.StructEq
import Derived.Shelf.Sort.Plain
import Derived.Test.YtebbgoklldmkiaaGreatProg
import Derived.Test.YtebbgoklldmkiaaGreatQ24
import Derived.Test.YtebbgoklldmkiaaGreatQ18
import Derived.Test.YtebbgoklldmkiaaGreatQ26
import Derived.Test.YtebbgoklldmkiaaGreatQ13
import Derived.Test.YtebbgoklldmkiaaGreatQ12
namespace Go.Xe
open Go Go.Proofs
set_option maxRecDepth 20000
def kindB (a b : KindR) : Bool := a.k0 == b.k0 && a.k1 == b.k1 && a.k2 == b.k2 && a.k3 == b.k3
def vKind (a : KindR) : Value := .agg #[.int .u8 a.k0, .int .u8 a.k1, .int .u8 a.k2, .int .u8 a.k3]
theorem run_part_u8 (xs : Array Value) (i : Nat) (x : Value) (hx : xs[i]? = some x) (w : World) : (part 5 xs i).run Tryz.prog w = .ok x w := by
  have h : Tryz.prog.underlying 5 = some (.int .u8) := layOk.und 5 ti5 rfl
  unfold part
  simp [hx]
theorem run_size5 (w : World) : (sizeOf 5).run Tryz.prog w = .ok 1 w := by
  obtain ⟨x, h1, _, h3, _⟩ := layOk.inf 5 ti5 rfl
  have h4 : x.size = 1 := h3
  simp [sizeOf, typeInfo, h1, h4]
theorem kind_eq (d : Nat) (a b : KindR) (w : World) : (Op.equalIn (d + 2) 39 (vKind a) (vKind b)).run Tryz.prog w = .ok (kindB a b) w := by
  have h : Tryz.prog.underlying 39 = some (.array 4 5) := layOk.und 39 ti39 rfl
  have h5 : Tryz.prog.underlying 5 = some (.int .u8) := layOk.und 5 ti5 rfl
  unfold vKind
  rw [Op.equalIn]
  simp only [Sem.run_bind, run_underlying h, Result.andThen_ok, run_size5, Std.Legacy.Range.forIn_eq_forIn_range', Std.Legacy.Range.size, Nat.sub_zero, Nat.add_sub_cancel, Nat.div_one, List.range', List.forIn_cons, List.forIn_nil]
  have pp : ∀ (x : KindR) (w : World), (part 5 #[.int .u8 x.k0, .int .u8 x.k1, .int .u8 x.k2, .int .u8 x.k3] 0).run Tryz.prog w = .ok (.int .u8 x.k0) w ∧ (part 5 #[.int .u8 x.k0, .int .u8 x.k1, .int .u8 x.k2, .int .u8 x.k3] 1).run Tryz.prog w = .ok (.int .u8 x.k1) w ∧
      (part 5 #[.int .u8 x.k0, .int .u8 x.k1, .int .u8 x.k2, .int .u8 x.k3] 2).run Tryz.prog w = .ok (.int .u8 x.k2) w ∧ (part 5 #[.int .u8 x.k0, .int .u8 x.k1, .int .u8 x.k2, .int .u8 x.k3] 3).run Tryz.prog w = .ok (.int .u8 x.k3) w := fun x w =>
    ⟨run_part_u8 _ _ _ rfl w, run_part_u8 _ _ _ rfl w, run_part_u8 _ _ _ rfl w, run_part_u8 _ _ _ rfl w⟩
  have ee : ∀ (x y : Int) (w : World), (Op.equalIn (d + 1) 5 (.int .u8 x) (.int .u8 y)).run Tryz.prog w = .ok (x == y) w := fun x y w => run_equalIn_int w d 5 .u8 .u8 x y h5
  simp only [Nat.zero_add, Nat.mul_one, Nat.reduceAdd, (pp a _).1, (pp b _).1, Result.andThen_ok, ee]
  unfold kindB
  cases h0 : a.k0 == b.k0 with
  | false => simp only [Bool.not_false, if_true, Sem.run_pure, Result.andThen_ok, Bool.false_and]
  | true =>
    simp only [Bool.not_true, Bool.false_eq_true, if_false, Sem.run_pure, Result.andThen_ok, Bool.true_and, Sem.run_bind, (pp a _).2.1, (pp b _).2.1, ee]
    cases h1 : a.k1 == b.k1 with
    | false => simp only [Bool.not_false, if_true, Sem.run_pure, Result.andThen_ok, Bool.false_and]
    | true =>
      simp only [Bool.not_true, Bool.false_eq_true, if_false, Sem.run_pure, Result.andThen_ok, Bool.true_and, Sem.run_bind, (pp a _).2.2.1, (pp b _).2.2.1, ee]
      cases h2 : a.k2 == b.k2 with
      | false => simp only [Bool.not_false, if_true, Sem.run_pure, Result.andThen_ok, Bool.false_and]
      | true =>
        simp only [Bool.not_true, Bool.false_eq_true, if_false, Sem.run_pure, Result.andThen_ok, Bool.true_and, Sem.run_bind, (pp a _).2.2.2, (pp b _).2.2.2, ee]
        cases h3 : a.k3 == b.k3 <;> simp
theorem kind_guard (op : BinOp) (xo yo : Operand) (a b : KindR) (w : World) : (eqGuard op 39 xo yo (vKind a) (vKind b)).run Tryz.prog w = .ok () w :=
  run_eqGuard_agg w op 39 xo yo _ _ (by kernel_rfl)
theorem run_kindNe (xo yo : Operand) (a b : KindR) (w : World) : (do eqGuard .neq 39 xo yo (vKind a) (vKind b); binOp .neq 39 (vKind a) (vKind b) : Sem Value).run Tryz.prog w = .ok (.bool (!kindB a b)) w := by
  simp only [Sem.run_bind, kind_guard, Result.andThen_ok]
  unfold vKind
  rw [run_neq_struct]
  have := kind_eq 9998 a b w
  unfold vKind at this
  rw [this]
  rfl
theorem run_kindEq (xo yo : Operand) (a b : KindR) (w : World) : (do eqGuard .eql 39 xo yo (vKind a) (vKind b); binOp .eql 39 (vKind a) (vKind b) : Sem Value).run Tryz.prog w = .ok (.bool (kindB a b)) w := by
  simp only [Sem.run_bind, kind_guard, Result.andThen_ok]
  unfold vKind
  rw [run_eql_struct]
  have := kind_eq 9998 a b w
  unfold vKind at this
  rw [this]
  rfl
section
variable {c : World} {ro : Option Nat} {n : Nat} {h : Hp} {Q : Exit → St → Hp → Prop}
/-- an operation that only reckons -/
theorem wp_sem0 {P : Program} {e : Option (List Nat)} {s : Sem Value} {k : Value → X} (v : Value) (hs : ∀ w, s.run P w = .ok v w) (hk : (k v).wp c P ro n h Q) : (X.sem e s k).wp c P ro n h Q := by
  intro w hw hc
  subst hw
  exact ⟨v, w, hs w, hc, Kp.refl _ _, hk⟩
end
end Go.Xe
namespace Go.Proofs
open Go.Shelf
def Tryz.lays189_ren : Go.Shelf.Ren := ⟨fun | 189 => 87 | 125 => 130 | 257 => 129 | 128 => 187 | 129 => 188 | 294 => 178 | 295 => 179 | 296 => 180 | 297 => 181 | 298 => 182 | 299 => 183 | 216 => 184 | 300 => 185 | 301 => 186 | 328 => 220 | 329 => 221 | 330 => 222 | 331 => 223 | 332 => 224 | 215 => 225 | 343 => 247 | n => n, fun | 28 => 34 | 3 => 3 | 46 => 201 | 0 => 0 | 51 => 265 | 53 => 267 | 4 => 4 | 183 => 258 | 182 => 257 | 131 => 223 | 5 => 5 | 9 => 9 | 218 => 294 | 222 => 215 | 228 => 322 | 229 => 307 | n => n, fun | n => n⟩
theorem Tryz.lays189 : Go.Proofs.Lays.n189 Tryz.prog Tryz.lays189_ren := {
  mixed := by kernel_rfl,
  f125 := Tryz.func130.trans (congrArg some (by kernel_rfl)),
  f128 := Tryz.func187.trans (congrArg some (by kernel_rfl)),
  f129 := Tryz.func188.trans (congrArg some (by kernel_rfl)),
  f189 := Tryz.func87.trans (congrArg some (by kernel_rfl)),
  f215 := Tryz.func225.trans (congrArg some (by kernel_rfl)),
  f216 := Tryz.func184.trans (congrArg some (by kernel_rfl)),
  f257 := Tryz.func129.trans (congrArg some (by kernel_rfl)),
  f294 := Tryz.func178.trans (congrArg some (by kernel_rfl)),
  f295 := Tryz.func179.trans (congrArg some (by kernel_rfl)),
  f296 := Tryz.func180.trans (congrArg some (by kernel_rfl)),
  f297 := Tryz.func181.trans (congrArg some (by kernel_rfl)),
  f298 := Tryz.func182.trans (congrArg some (by kernel_rfl)),
  f299 := Tryz.func183.trans (congrArg some (by kernel_rfl)),
  f300 := Tryz.func185.trans (congrArg some (by kernel_rfl)),
  f301 := Tryz.func186.trans (congrArg some (by kernel_rfl)),
  f328 := Tryz.func220.trans (congrArg some (by kernel_rfl)),
  f329 := Tryz.func221.trans (congrArg some (by kernel_rfl)),
  f330 := Tryz.func222.trans (congrArg some (by kernel_rfl)),
  f331 := Tryz.func223.trans (congrArg some (by kernel_rfl)),
  f332 := Tryz.func224.trans (congrArg some (by kernel_rfl)),
  f343 := Tryz.func247.trans (congrArg some (by kernel_rfl)),
  t0 := Tryz.underlying0,
  a0 := Tryz.isAgg0,
  z0 := Tryz.sizeOf0,
  v0 := Tryz.zeroValue0,
  t3 := Tryz.underlying3,
  a3 := Tryz.isAgg3,
  z3 := Tryz.sizeOf3,
  v3 := Tryz.zeroValue3,
  t4 := Tryz.underlying4,
  a4 := Tryz.isAgg4,
  z4 := Tryz.sizeOf4,
  v4 := Tryz.zeroValue4,
  t5 := Tryz.underlying5,
  a5 := Tryz.isAgg5,
  z5 := Tryz.sizeOf5,
  v5 := Tryz.zeroValue5,
  t9 := Tryz.underlying9,
  a9 := Tryz.isAgg9,
  z9 := Tryz.sizeOf9,
  v9 := Tryz.zeroValue9,
  t28 := Tryz.underlying34,
  a28 := Tryz.isAgg34,
  z28 := Tryz.sizeOf34,
  v28 := Tryz.zeroValue34,
  t46 := Tryz.underlying201,
  a46 := Tryz.isAgg201,
  z46 := Tryz.sizeOf201,
  v46 := Tryz.zeroValue201,
  t51 := Tryz.underlying265,
  a51 := Tryz.isAgg265,
  z51 := Tryz.sizeOf265,
  v51 := Tryz.zeroValue265,
  t53 := Tryz.underlying267,
  a53 := Tryz.isAgg267,
  z53 := Tryz.sizeOf267,
  v53 := Tryz.zeroValue267,
  t131 := Tryz.underlying223,
  a131 := Tryz.isAgg223,
  z131 := Tryz.sizeOf223,
  v131 := Tryz.zeroValue223,
  t182 := Tryz.underlying257,
  a182 := Tryz.isAgg257,
  z182 := Tryz.sizeOf257,
  v182 := Tryz.zeroValue257,
  t183 := Tryz.underlying258,
  a183 := Tryz.isAgg258,
  z183 := Tryz.sizeOf258,
  v183 := Tryz.zeroValue258,
  t218 := Tryz.underlying294,
  a218 := Tryz.isAgg294,
  z218 := Tryz.sizeOf294,
  v218 := Tryz.zeroValue294,
  t222 := Tryz.underlying215,
  a222 := Tryz.isAgg215,
  z222 := Tryz.sizeOf215,
  v222 := Tryz.zeroValue215,
  t228 := Tryz.underlying322,
  a228 := Tryz.isAgg322,
  z228 := Tryz.sizeOf322,
  v228 := Tryz.zeroValue322,
  t229 := Tryz.underlying307,
  a229 := Tryz.isAgg307,
  z229 := Tryz.sizeOf307,
  v229 := Tryz.zeroValue307 }
end Go.Proofs
namespace Go.Xe
open Go Go.Proofs
set_option maxRecDepth 20000
variable {c : World}
def elV (l : List Int) : List (List Value) := l.map fun v => [Value.int .i64 v]
theorem valuesIt_c (M : List Nat) (nos : List Int) (a : Option Addr) (cap b1 l : Nat) (hz : nos.length < 900000) (J : Nat → Hp → Prop)
    (hJ : ∀ i h, J i h → IntsAt M h a cap nos ∧ h[b1]? = some (.cells #[.slice a nos.length cap] 34 (0, 0))) (h : Hp) (ha : J 0 h)
    (hy : ∀ i x h, (elV nos)[i]? = some x → J i h → Yield c Tryz.prog l x.toArray h fun r h' => r = .bool true ∧ J (i + 1) h') :
    Call c Tryz.prog 214 #[.func (.yield l) #[] #[], .pointer (some ⟨b1, 0, none⟩)] h fun _ h' => J nos.length h' := by
  refine call_of layOk 16 Tryz.func214 Tryz.ntmps214 rfl rfl rfl rfl ?_
  refine wp_load (ld_of (hJ 0 h ha).2 rfl) ?_
  refine wp_loopK layOk [7, 4] 8 15 rfl [0, 1, 5, 6] [.func (.yield l) #[] #[], .pointer (some ⟨b1, 0, none⟩), .slice a nos.length cap, .int .i64 nos.length] rfl [] rfl
    (fun m vals h' => ∃ (j : Nat) (u : Value), vals = [.int .i64 j, u] ∧ j + m = nos.length ∧ J j h') nos.length ⟨0, _, rfl, by omega, ha⟩ ?_
  rintro ρ0 m g vals h1 - ⟨j, u, rfl, hjm, hj1⟩
  refine wp_br (fun g1 => ?_) (fun g1 => ?_)
  · have hj' : (j : Int) < (nos.length : Int) := of_decide_eq_true g1
    clear g1
    have hj : j < nos.length := by omega
    have hje := List.getElem?_eq_getElem hj
    have hxe : (elV nos)[j]? = some [Value.int .i64 nos[j]] := by simp [elV, hje]
    have hn1 := (hJ j h1 hj1).1
    obtain ⟨b, o, hqa⟩ := hn1.ptr (i := ti3) hj
    rw [hqa] at hn1 ⊢
    generalize nos[j] = no at hje hxe
    refine wp_chk ⟨by omega, by omega⟩ ?_
    refine wp_load (hn1.ld1 (i := ti3) enI hje) ?_
    refine wp_round (hy j _ h1 hxe hj1) ?_
    rintro _ h2 ⟨rfl, hj2⟩
    refine wp_brF rfl ?_
    refine wp_done ⟨m - 1, by omega, j + 1, .int .i64 no, ?_, by omega, hj2⟩
    exact congrArg (fun z => [Value.int .i64 z, .int .i64 no]) (by rw [w64 (by omega) (by omega)]; omega)
  · have hj' : ¬ ((j : Int) < (nos.length : Int)) := of_decide_eq_false g1
    clear g1
    have : j = nos.length := by omega
    subst this
    refine wp_done ?_
    show X.wp _ _ _ _ _ _ _
    exact wp_done ⟨rfl, hj1⟩
theorem appendSeq_c (M : List Nat) (nos : List Int) (a : Option Addr) (cap b1 : Nat) (hz : nos.length < 900000) (h : Hp) (hn : IntsAt M h a cap nos) (hb : h[b1]? = some (.cells #[.slice a nos.length cap] 34 (0, 0))) :
    Call c Tryz.prog 243 #[.slice none 0 0, .func (.func 214) #[] #[.pointer (some ⟨b1, 0, none⟩)]] h fun v h' => ∃ a' cap' blk', v = .slice a' nos.length cap' ∧ IntsOwn h' a' cap' nos blk' ∧ Chg [] h h' ∧ Fresh h blk' := by
  refine call_ofM layOk 13 Tryz.func243 Tryz.ntmps243 rfl rfl rfl ?_
  refine wp_new ?_
  intro b2 h1 hN
  have hc1 := hN.chg []
  have hle := hN.le
  refine wp_rangeF (gf := 214) (cap := #[.pointer (some ⟨b1, 0, none⟩)]) layOk rfl rfl (elV nos) (fun x hx => by
      obtain ⟨v, _, rfl⟩ := List.mem_map.1 hx
      rfl)
    (fun i h' => ∃ a3 cap3 blk3, h'[b2]? = some (.cells #[.slice a3 (nos.take i).length cap3] 34 (0, 0)) ∧ IntsOwn h' a3 cap3 (nos.take i) blk3 ∧ Chg [b2] h1 h' ∧ Fresh h blk3 ∧ h1.size + 2 ≤ h'.size ∧ ∀ g, blk3 = some g → g ≠ h1.size ∧ g ≠ h1.size + 1) ?_ ?_ ?_ ?_ ?_
  · rintro i ha hb o ⟨a3, cap3, blk3, e1, e2, e3, e4, e5, e6⟩ hU
    have hb2 := (Array.getElem?_eq_some_iff.1 hN.here).1
    refine ⟨a3, cap3, blk3, hU.of e1 (by omega), e2.wr hU (fun g hg => (e6 g hg).2), ⟨by rw [hU.size]; exact e3.size, fun k hk hm => (hU.other k (by omega)).trans (e3.same k hk hm)⟩, e4, by rw [hU.size]; exact e5, e6⟩
  · intro h2 hc2 hs2
    exact ⟨none, 0, none, hc2.of hN.here (by simp), OwnAt.nil, hc2.mono (by simp), .none, by omega, fun g hg => by cases hg⟩
  · intro J h2 hc2 hJI hyl hJ0
    have hlen : (elV nos).length = nos.length := by simp [elV]
    rw [hlen]
    refine valuesIt_c (M := b2 :: M) nos a cap b1 (h2.size - 1) hz J (fun i h' hj => ?_) h2 hJ0 hyl
    obtain ⟨a3, cap3, blk3, e1, e2, e3, e4, e5, e6⟩ := hJI i h' hj
    have hb1 : b1 ≠ b2 := hN.ne hb
    exact ⟨((hn.push hN.le).ext hc1).chg e3 (by simp), e3.of (hc1.of hb (by simp)) (by simpa using hb1)⟩
  · rintro i x h2 d hx ⟨a3, cap3, blk3, e1, e2, e3, e4, e5, e6⟩ hld hdf
    have hi := (List.getElem?_eq_some_iff.1 hx).1
    have hi' : i < nos.length := by simpa [elV] using hi
    have hx' : x = [Value.int .i64 nos[i]] := by
      have : (elV nos)[i]? = some [Value.int .i64 nos[i]] := by simp [elV, List.getElem?_eq_getElem hi']
      rw [this] at hx
      exact (Option.some.inj hx).symm
    have htk : nos.take (i + 1) = nos.take i ++ [nos[i]] := by rw [List.take_add_one, List.getElem?_eq_getElem hi']; rfl
    generalize nos[i] = no at hx' htk
    subst hx'
    have hb2 := (Array.getElem?_eq_some_iff.1 hN.here).1
    refine wp_done ⟨rfl, rfl, rfl, fun h3 d' hU => ?_⟩
    refine wp_load (ld_of (hU.of e1 (by omega)) rfl) ?_
    refine wp_new ?_
    intro b4 h4 hN4
    have ho4 := (e2.wr hU (fun g hg => (e6 g hg).2)).ext (hN4.chg [])
    refine wp_append layOk (t := 34) rfl rfl rfl (i := ti3) enI rfl rfl rfl ho4 (M := []) (l' := [no]) (.inr ⟨b4, 0, _, rfl, by simp, hN4.here, Nat.le_refl _, Nat.le_refl _, rfl⟩) (by rw [List.length_take]; simp; omega) (by simp) ?_
    intro h5 a5 cap5 blk5 ho5 hc5 hb5
    rw [← htk] at ho5 ⊢
    have hs3 : h3.size = h2.size := hU.size
    have hs4 : h4.size = h3.size + 1 := by rw [hN4.heap]; simp
    have hc13 : Chg [b2] h1 h3 := ⟨by rw [hs3]; exact e3.size, fun k hk hm => (hU.other k (by omega)).trans (e3.same k hk hm)⟩
    have hc14 : Chg [b2] h1 h4 := hc13.trans (hN4.chg _)
    have hb2n : ∀ g, blk3 = some g → g ≠ b2 := by
      intro g hg e
      rcases e2 with ⟨_, _, _, r⟩ | ⟨g', cs, _, r, r2, _⟩
      · rw [r] at hg; cases hg
      · rw [r] at hg
        cases hg
        rw [e, e1] at r2
        injection r2 with r2
        injection r2 with _ r3 _
        cases r3
    have h9 : h5[b2]? = some (.cells #[.slice a3 (nos.take i).length cap3] 34 (0, 0)) := hc5.of (hN4.of (hU.of e1 (by omega))) (fun hm => by
      have : blk3 = some b2 := by simpa using hm
      exact hb2n b2 this rfl)
    have hf4 : Fresh h1 blk3 := fun g hg => by
      have := e4 g hg
      have := (e6 g hg).1
      have h7 := hb2n g hg
      have h8 := hN.heap
      have h10 : h1.size = h.size + 1 := by rw [h8]; simp
      have := hN.eq
      omega
    have hblk : ∀ g, blk5 = some g → g ≠ h1.size ∧ g ≠ h1.size + 1 := by
      intro g hg
      rcases hb5 with rfl | ⟨g', rfl, hg'⟩
      · exact e6 g hg
      · cases hg
        omega
    have hdn : ∀ k, k = h1.size ∨ k = h1.size + 1 → k ∉ blk3.toList := fun k hk hm => by
      have : blk3 = some k := by simpa using hm
      have := e6 k this
      omega
    have hb2n5 : b2 ≠ h1.size ∧ b2 ≠ h1.size + 1 := by omega
    refine wp_store h9 (by rfl) ?_
    intro h6 hU6
    have hn6 : ∀ g, blk5 = some g → g ≠ b2 := by
      intro g hg
      rcases hb5 with rfl | ⟨g', rfl, hg'⟩
      · exact hb2n g hg
      · cases hg
        omega
    have hc15 : Chg [b2] h1 h5 := hc14.fresh hc5 fun k hk => .inr (hf4 k (by simpa using hk))
    have hst : ∀ k o, k = h1.size ∨ k = h1.size + 1 → h3[k]? = some o → h6[k]? = some o := fun k o hk hx => by
      refine hU6.of (hc5.of (hN4.of hx) (hdn k hk)) (by omega)
    refine wp_done ⟨rfl, ⟨a5, cap5, blk5, hU6.here, ho5.wr hU6 hn6, hc15.trans (hU6.chg (by simp)), ?_, ?_, hblk⟩, ?_, ?_⟩
    · intro g hg
      rcases hb5 with rfl | ⟨g', rfl, hg'⟩
      · exact e4 g hg
      · cases hg
        have := hc14.size
        have := hc1.size
        omega
    · rw [hU6.size]
      have := hc5.size
      omega
    · have : h3[h1.size + 1]? = some (.loop d') := hU.here
      rw [this]
      exact hst _ _ (.inr rfl) this
    · exact hst _ _ (.inl rfl) (hU.of hdf (by omega))
  · rintro h2 ⟨a3, cap3, blk3, e1, e2, e3, e4, e5, e6⟩ hdf
    have hlen : (elV nos).length = nos.length := by simp [elV]
    rw [hlen, List.take_length] at e1 e2
    have hb2 := (Array.getElem?_eq_some_iff.1 hN.here).1
    refine wp_load (ld_of e1 rfl) ?_
    refine wp_done (finM_mark h1.size rfl hdf fun h3 hU3 => ?_)
    refine ⟨[.slice a3 nos.length cap3], ⟨rfl, trivial⟩, a3, cap3, blk3, rfl, e2.wr hU3 (fun g hg => (e6 g hg).1), ?_, e4⟩
    have hc2 : Chg [] h h2 := hc1.fresh e3 (fun k hk => .inr (by rw [List.mem_singleton] at hk; rw [hk]; exact hle))
    exact hU3.chgGe hc2 hc1.size
end Go.Xe
namespace Go.Xe
def insI (x : Int) : List Int → List Int
  | [] => [x]
  | y :: l => if x ≤ y then x :: y :: l else y :: insI x l
def sortI : List Int → List Int
  | [] => []
  | x :: l => insI x (sortI l)
theorem insI_perm (x : Int) : ∀ l, (insI x l).Perm (x :: l)
  | [] => .refl _
  | y :: l => by
    simp only [insI]
    split
    · exact .refl _
    · exact ((insI_perm x l).cons y).trans (.swap ..)
theorem sortI_perm : ∀ l, (sortI l).Perm l
  | [] => .refl _
  | x :: l => (insI_perm x _).trans ((sortI_perm l).cons x)
theorem insI_sorted (x : Int) : ∀ l : List Int, l.Pairwise (· ≤ ·) → (insI x l).Pairwise (· ≤ ·)
  | [], _ => by simp [insI]
  | y :: l, h => by
    rw [List.pairwise_cons] at h
    simp only [insI]
    split
    · rename_i hxy
      refine List.pairwise_cons.2 ⟨fun z hz => ?_, List.pairwise_cons.2 h⟩
      rcases List.mem_cons.1 hz with rfl | hz
      · exact hxy
      · have := h.1 z hz; omega
    · rename_i hxy
      refine List.pairwise_cons.2 ⟨fun z hz => ?_, insI_sorted x l h.2⟩
      rcases List.mem_cons.1 ((insI_perm x l).mem_iff.1 hz) with rfl | hz
      · omega
      · exact h.1 z hz
theorem sortI_sorted : ∀ l, (sortI l).Pairwise (· ≤ ·)
  | [] => List.Pairwise.nil
  | x :: l => insI_sorted x _ (sortI_sorted l)
theorem sortI_merge (l : List Int) : (l.mergeSort fun x y => decide (x ≤ y)) = sortI l := by
  refine List.Perm.eq_of_pairwise (le := (· ≤ ·)) (fun a b _ _ h1 h2 => Int.le_antisymm h1 h2) ?_ (sortI_sorted l) ((List.mergeSort_perm l _).trans (sortI_perm l).symm)
  have := List.pairwise_mergeSort (le := fun x y : Int => decide (x ≤ y)) (fun a b c h1 h2 => by simp at *; omega) (fun a b => by simp; omega) l
  exact this.imp fun h => by simpa using h
theorem sortI_len (l : List Int) : (sortI l).length = l.length := (sortI_perm l).length_eq
end Go.Xe
