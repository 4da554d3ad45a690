/- Lemmas on the way: The stable sort of remainders: insertion. Apportioning, as plain data. The stable sort of few remainders. -/
import Derived.Test.YtebbgoklldmkiaaGreatQ12
import Derived.Test.YtebbgoklldmkiaaGreatQ13
namespace Go.Xe
open Go Go.Proofs
set_option maxRecDepth 20000
variable {c : World}
def vRest (p : RestR) : Value := .agg #[.int .i64 p.at_, .int .i64 p.left]
def cmpZ (x y : Int) : Int := if x < y then -1 else if x > y then 1 else 0
theorem nan_c (x : Int) (h : Hp) : Call c Tryz.prog 225 #[.int .i64 x] h fun v h' => v = .bool false ∧ h' = h := by
  refine call_of layOk 6 Tryz.func225 Tryz.ntmps225 rfl rfl rfl rfl ?_
  exact wp_done ⟨rfl, congrArg Value.bool (by simp), rfl⟩
theorem compare_c (x y : Int) (h : Hp) : Call c Tryz.prog 238 #[.int .i64 x, .int .i64 y] h fun v h' => v = .int .i64 (cmpZ x y) ∧ h' = h := by
  refine call_of layOk 20 Tryz.func238 Tryz.ntmps238 rfl rfl rfl rfl ?_
  refine wp_call (nan_c x h) ?_
  rintro _ _ ⟨rfl, rfl⟩
  refine wp_call (nan_c y _) ?_
  rintro _ _ ⟨rfl, rfl⟩
  refine wp_brF rfl (wp_brF rfl ?_)
  refine wp_br (fun h1 => ?_) (fun h1 => ?_)
  · exact wp_done ⟨rfl, congrArg (Value.int .i64) (by simp [cmpZ, of_decide_eq_true h1]), rfl⟩
  · refine wp_br (fun h2 => ?_) (fun h2 => ?_)
    · exact wp_done ⟨rfl, congrArg (Value.int .i64) (by simp [cmpZ, of_decide_eq_false h1, of_decide_eq_true h2]), rfl⟩
    · exact wp_done ⟨rfl, congrArg (Value.int .i64) (by simp [cmpZ, of_decide_eq_false h1, of_decide_eq_false h2]), rfl⟩
theorem byLeft_c (a b : RestR) (h : Hp) : Call c Tryz.prog 237 #[vRest a, vRest b] h fun v h' => v = .int .i64 (cmpZ b.left a.left) ∧ Chg [] h h' := by
  refine call_of layOk 10 Tryz.func237 Tryz.ntmps237 rfl rfl rfl rfl ?_
  refine wp_new ?_
  intro b1 h1 hN1
  refine wp_new ?_
  intro b2 h2 hN2
  refine wp_load (ld_of hN2.here rfl) ?_
  refine wp_load (ld_of (hN2.of hN1.here) rfl) ?_
  refine wp_call (compare_c _ _ _) ?_
  rintro _ _ ⟨rfl, rfl⟩
  exact wp_done ⟨rfl, rfl, (hN1.chg []).trans (hN2.chg [])⟩

/-- one before the other: more is left, or as much and an earlier place -/
def RB (a b : RestR) : Prop := b.left < a.left ∨ (a.left = b.left ∧ a.at_ < b.at_)
theorem RB.tr {a b c : RestR} (x : RB a b) (y : RB b c) : RB a c := by unfold RB at *; omega

theorem swap_list {α : Type} (B E : List α) (x y : α) : ((B ++ y :: x :: E).set (B.length + 1) y).set B.length x = B ++ x :: y :: E := by simp
theorem get_b0 {α : Type} (B E : List α) (y : α) : (B ++ y :: E)[B.length]? = some y := by simp
theorem get_b1 {α : Type} (B E : List α) (x y : α) : (B ++ y :: x :: E)[B.length + 1]? = some x := by
  rw [List.getElem?_append_right (by omega), Nat.add_sub_cancel_left]
  rfl

theorem insertion_c (a : Option Addr) (cap : Nat) (blk : Option Nat) (A P D : List RestR) (h : Hp) (ho : RestsOwn h a cap (A ++ P ++ D) blk) (hz : (A ++ P ++ D).length < 900000) (hne : 0 < P.length)
    (hat : P.Pairwise fun x y => x.at_ < y.at_) :
    Call c Tryz.prog 284 #[.slice a (A ++ P ++ D).length cap, .int .i64 A.length, .int .i64 (A.length + P.length : Nat), .func (.func 237) #[] #[]] h fun _ h' => ∃ P', P'.Perm P ∧ P'.Pairwise RB ∧ RestsOwn h' a cap (A ++ P' ++ D) blk ∧ Chg blk.toList h h' := by
  simp only [List.length_append] at hz
  obtain ⟨b, rfl, rfl⟩ := ho.ptr (i := ti310) (j := 0) (by simp; omega)
  refine call_of layOk 53 Tryz.func284 Tryz.ntmps284 rfl rfl rfl rfl ?_
  refine wp_loopG layOk [8, 9] 10 52 rfl (fun m vals h' => ∃ (i : Nat) (u : Value) (S : List RestR), vals = [.int .i64 (A.length + i : Nat), u] ∧ i + m = P.length ∧ 0 < i ∧ S.Perm (P.take i) ∧ S.Pairwise RB ∧
    RestsOwn h' (some ⟨b, 0, none⟩) cap (A ++ (S ++ P.drop i) ++ D) (some b) ∧ Chg [b] h h') (P.length - 1) ⟨1, undef, P.take 1, ?_, by omega, by omega, List.Perm.refl _, ?_, ?_, Chg.refl _ _⟩ ?_
  · exact congrArg (fun z => [Value.int .i64 z, undef]) (by rw [w64 (by omega) (by omega)]; omega)
  · cases P with
    | nil => simp at hne
    | cons p P => simp
  · rw [List.take_append_drop]; exact ho
  rintro m g vals h' - ⟨i, u, S, rfl, hm, hi0, hperm, hS, ho', hc⟩
  have hSl : S.length = i := by rw [hperm.length_eq, List.length_take]; omega
  refine wp_br (fun h1 => ?_) (fun h1 => ?_)
  · have hi : i < P.length := by
      have := of_decide_eq_true h1
      omega
    have hdrop : P.drop i = P[i] :: P.drop (i + 1) := List.drop_eq_getElem_cons hi
    have hatS : ∀ s, s ∈ S → s.at_ < P[i].at_ := by
      intro s hs
      have hs' : s ∈ P.take i := hperm.mem_iff.1 hs
      obtain ⟨k, hk, rfl⟩ := List.mem_iff_getElem.1 hs'
      rw [List.length_take] at hk
      rw [List.getElem_take]
      exact List.pairwise_iff_getElem.1 hat k i (by omega) hi (by omega)
    -- the inner loop
    refine wp_loopG layOk [9] 18 52 rfl (fun q vals h' => ∃ (S1 S2 : List RestR), vals = [.int .i64 (A.length + S1.length : Nat)] ∧ q = S1.length ∧ S1 ++ S2 = S ∧ (∀ y, y ∈ S2 → y.left < P[i].left) ∧
      RestsOwn h' (some ⟨b, 0, none⟩) cap (A ++ (S1 ++ P[i] :: S2 ++ P.drop (i + 1)) ++ D) (some b) ∧ Chg [b] h h') i ⟨S, [], ?_, hSl.symm, by simp, by simp, ?_, hc⟩ ?_
    · rw [hSl]; rfl
    · rw [hdrop] at ho'; simpa using ho'
    rintro q g2 vals h2 - ⟨S1, S2, rfl, rfl, h12, hlt, ho2, hc2⟩
    have hfin : ∀ (hS1 : ∀ y, y ∈ S1 → RB y P[i]), (S1 ++ P[i] :: S2).Perm (P.take (i + 1)) ∧ (S1 ++ P[i] :: S2).Pairwise RB := by
      intro hS1
      refine ⟨?_, ?_⟩
      · have htk : P.take (i + 1) = P.take i ++ [P[i]] := by rw [List.take_add_one, List.getElem?_eq_getElem hi]; rfl
        rw [htk]
        refine List.perm_middle.trans ?_
        rw [h12]
        exact (List.Perm.cons _ hperm).trans (List.perm_append_singleton P[i] (P.take i)).symm
      · rw [← h12] at hS
        rw [List.pairwise_append] at hS ⊢
        refine ⟨hS.1, List.pairwise_cons.2 ⟨fun y hy => .inl (hlt y hy), hS.2.1⟩, fun x hx y hy => ?_⟩
        rcases List.mem_cons.1 hy with rfl | hy
        · exact hS1 x hx
        · exact hS.2.2 x hx y hy
    refine wp_ord layOk mixed [(0, 16)] [] (by kernel_rfl) ?_
    refine wp_br (fun h3 => ?_) (fun h3 => ?_)
    · have hpos : 0 < S1.length := by
        have := of_decide_eq_true h3
        omega
      obtain ⟨S1', y, rfl⟩ : ∃ S1' y, S1 = S1' ++ [y] := ⟨S1.dropLast, S1.getLast (by intro h0; simp [h0] at hpos), (List.dropLast_concat_getLast _).symm⟩
      have hLst : A ++ (S1' ++ [y] ++ P[i] :: S2 ++ P.drop (i + 1)) ++ D = (A ++ S1') ++ y :: P[i] :: (S2 ++ P.drop (i + 1) ++ D) := by simp
      rw [hLst] at ho2
      have hlen : (A ++ S1').length + 1 < (A ++ P ++ D).length := by
        have := congrArg List.length h12
        simp only [List.length_append, List.length_singleton] at this ⊢
        omega
      have hlen' : (A ++ S1').length + 1 < 900000 := by
        simp only [List.length_append] at hlen ⊢
        omega
      have hb1 : (A.length + (S1' ++ [y]).length) = (A ++ S1').length + 1 := by simp; omega
      have hw : IntKind.i64.wrap (((A.length + (S1' ++ [y]).length : Nat) : Int) - 1) = (((A ++ S1').length : Nat) : Int) := by
        rw [w64 (by omega) (by omega)]
        omega
      refine wp_brT rfl (wp_brT rfl (wp_brT rfl ?_))
      refine wp_chk ⟨by omega, by omega⟩ ?_
      refine wp_brT rfl ?_
      refine wp_load (Ld.at (j := (A ++ S1').length + 1) (by omega) (ho2.ld1 (i := ti310) enRest (get_b1 _ _ _ _))) ?_
      refine wp_brT rfl (wp_brT rfl (wp_brT rfl (wp_brT rfl ?_)))
      refine wp_chk ⟨by rw [hw]; omega, by rw [hw]; omega⟩ ?_
      refine wp_brT rfl ?_
      refine wp_load (Ld.at hw (ho2.ld1 (i := ti310) enRest (get_b0 _ _ _))) ?_
      refine wp_brT rfl ?_
      refine wp_call (byLeft_c P[i] y h2) ?_
      rintro _ h4 ⟨rfl, hc4⟩
      refine wp_brT rfl ?_
      refine wp_brT rfl ?_
      have ho4 := ho2.chg hc4 (by simp)
      refine wp_br (fun h5 => ?_) (fun h5 => ?_)
      · have hyl : y.left < P[i].left := by
          have := of_decide_eq_true h5
          unfold cmpZ at this
          split at this
          · assumption
          · split at this <;> omega
        refine wp_ord layOk mixed [(0, 17)] [] (by kernel_rfl) ?_
        refine wp_chk ⟨by rw [hw]; omega, by rw [hw]; omega⟩ ?_
        refine wp_load (Ld.at hw (ho4.ld1 (i := ti310) enRest (get_b0 _ _ _))) ?_
        refine wp_chk ⟨by omega, by omega⟩ ?_
        refine wp_load (Ld.at (j := (A ++ S1').length + 1) (by omega) (ho4.ld1 (i := ti310) enRest (get_b1 _ _ _ _))) ?_
        refine wp_chk ⟨by omega, by omega⟩ ?_
        refine wp_storeElZ (i := ti310) enRest ho4 ((A ++ S1').length + 1) (by omega) (List.getElem?_eq_some_iff.1 (get_b1 _ _ _ _)).1 y rfl ?_
        intro h6 ho6 hc6 _ _
        refine wp_chk ⟨by rw [hw]; omega, by rw [hw]; omega⟩ ?_
        refine wp_storeElZ (i := ti310) enRest ho6 (A ++ S1').length hw (by rw [List.length_set]; exact (List.getElem?_eq_some_iff.1 (get_b0 _ _ _)).1) P[i] rfl ?_
        intro h7 ho7 hc7 _ _
        rw [swap_list, show A ++ S1' ++ P[i] :: y :: (S2 ++ P.drop (i + 1) ++ D) = A ++ (S1' ++ P[i] :: (y :: S2) ++ P.drop (i + 1)) ++ D from by simp] at ho7
        refine wp_done ⟨S1'.length, by simp, S1', y :: S2, ?_, rfl, by simpa using h12, ?_, ?_, hc2.trans ((hc4.mono (by simp)).trans (hc6.trans hc7))⟩
        · refine congrArg (fun z => [Value.int .i64 z]) (hw.trans ?_)
          simp
        · intro z hz
          rcases List.mem_cons.1 hz with rfl | hz
          · exact hyl
          · exact hlt z hz
        · exact ho7
      · have hyl : ¬ y.left < P[i].left := by
          intro hlt
          have := of_decide_eq_false h5
          simp [cmpZ, hlt] at this
        have hf := hfin (by
          intro z hz
          have hyR : RB y P[i] := by
            have h9 := hatS y (by rw [← h12]; simp)
            unfold RB
            omega
          rcases List.mem_append.1 hz with hz | hz
          · rw [← h12, List.append_assoc, List.pairwise_append] at hS
            exact (hS.2.2 z hz y (by simp)).tr hyR
          · rcases List.mem_singleton.1 hz with rfl
            exact hyR)
        have hwi : IntKind.i64.wrap (((A.length + i : Nat) : Int) + 1) = ((A.length + (i + 1) : Nat) : Int) := by
          rw [w64 (by omega) (by omega)]
          omega
        have hlist : A ++ S1' ++ y :: P[i] :: (S2 ++ P.drop (i + 1) ++ D) = A ++ (S1' ++ [y] ++ P[i] :: S2 ++ P.drop (i + 1)) ++ D := by simp
        rw [hlist] at ho4
        have hcc := hc2.trans (hc4.mono (M' := [b]) (by simp))
        refine wp_done ?_
        show X.wp _ _ _ _ _ _ _
        exact wp_done ⟨m - 1, by omega, i + 1, .int .i64 (A.length + (S1' ++ [y]).length : Nat), S1' ++ [y] ++ P[i] :: S2, congrArg (fun z => [Value.int .i64 z, Value.int .i64 (A.length + (S1' ++ [y]).length : Nat)]) hwi, by omega, by omega, hf.1, hf.2, ho4, hcc⟩
    · have h10 : S1 = [] := by
        have := of_decide_eq_false h3
        exact List.length_eq_zero_iff.1 (by omega)
      subst h10
      have hf := hfin (by simp)
      have hwi : IntKind.i64.wrap (((A.length + i : Nat) : Int) + 1) = ((A.length + (i + 1) : Nat) : Int) := by
        rw [w64 (by omega) (by omega)]
        omega
      repeat refine wp_brF rfl ?_
      refine wp_done ?_
      show X.wp _ _ _ _ _ _ _
      exact wp_done ⟨m - 1, by omega, i + 1, .int .i64 (A.length + ([] : List RestR).length : Nat), [] ++ P[i] :: S2, congrArg (fun z => [Value.int .i64 z, Value.int .i64 (A.length + ([] : List RestR).length : Nat)]) hwi, by omega, by omega, hf.1, hf.2, ho2, hc2⟩
  · have hi : i = P.length := by
      have := of_decide_eq_false h1
      omega
    subst hi
    rw [List.take_length] at hperm
    rw [List.drop_length, List.append_nil] at ho'
    refine wp_done ?_
    show X.wp _ _ _ _ _ _ _
    exact wp_done ⟨rfl, S, hperm, hS, ho', hc⟩
end Go.Xe
namespace Go.Xe
open Go
def sumI : List Int → Int
  | [] => 0
  | x :: l => x + sumI l
def rests (t s : Int) : Nat → List Int → List RestR
  | _, [] => []
  | i, w :: l => ⟨i, t * w % s⟩ :: rests t s (i + 1) l
instance (a b : RestR) : Decidable (RB a b) := by unfold RB; infer_instance
def insR (x : RestR) : List RestR → List RestR
  | [] => [x]
  | y :: l => if RB x y then x :: y :: l else y :: insR x l
def sortR : List RestR → List RestR
  | [] => []
  | x :: l => insR x (sortR l)
def bump (q : List Int) (x : RestR) : List Int := q.set x.at_.toNat (q.getD x.at_.toNat 0 + 1)
def apportion (t : Int) (l : List Int) : List Int :=
  let q := l.map fun w => t * w / sumI l
  ((sortR (rests t (sumI l) 0 l)).take (t - sumI q).toNat).foldl bump q

theorem insR_perm (x : RestR) : ∀ l, (insR x l).Perm (x :: l)
  | [] => .refl _
  | y :: l => by
    simp only [insR]
    split
    · exact .refl _
    · exact ((insR_perm x l).cons y).trans (.swap x y l)
theorem sortR_perm : ∀ l, (sortR l).Perm l
  | [] => .refl _
  | x :: l => (insR_perm x _).trans ((sortR_perm l).cons x)
theorem insR_sorted (x : RestR) : ∀ l : List RestR, l.Pairwise RB → (∀ y, y ∈ l → y.at_ ≠ x.at_) → (insR x l).Pairwise RB
  | [], _, _ => by simp [insR]
  | y :: l, h, ha => by
    rw [List.pairwise_cons] at h
    simp only [insR]
    split
    · rename_i hxy
      refine List.pairwise_cons.2 ⟨fun z hz => ?_, List.pairwise_cons.2 h⟩
      rcases List.mem_cons.1 hz with rfl | hz
      · exact hxy
      · exact hxy.tr (h.1 z hz)
    · rename_i hxy
      refine List.pairwise_cons.2 ⟨fun z hz => ?_, insR_sorted x l h.2 fun z hz => ha z (List.mem_cons_of_mem _ hz)⟩
      rcases List.mem_cons.1 ((insR_perm x l).mem_iff.1 hz) with rfl | hz
      · have := ha y (List.mem_cons_self ..)
        unfold RB at *
        omega
      · exact h.1 z hz
theorem sortR_sorted : ∀ l : List RestR, (l.Pairwise fun x y => x.at_ ≠ y.at_) → (sortR l).Pairwise RB
  | [], _ => List.Pairwise.nil
  | x :: l, h => by
    rw [List.pairwise_cons] at h
    exact insR_sorted x _ (sortR_sorted l h.2) fun y hy => (h.1 y ((sortR_perm l).mem_iff.1 hy)).symm
theorem sorted_uniq : ∀ ys zs : List RestR, ys.Perm zs → ys.Pairwise RB → zs.Pairwise RB → ys = zs
  | [], zs, h, _, _ => (List.nil_perm.1 h).symm
  | y :: ys, [], h, _, _ => absurd h (by simp)
  | y :: ys, z :: zs, h, h1, h2 => by
    rw [List.pairwise_cons] at h1 h2
    rcases List.mem_cons.1 (h.mem_iff.1 (List.mem_cons_self ..)) with rfl | hy
    · rw [sorted_uniq ys zs ((List.perm_cons y).1 h) h1.2 h2.2]
    · rcases List.mem_cons.1 (h.mem_iff.2 (List.mem_cons_self ..)) with rfl | hz
      · rw [sorted_uniq ys zs ((List.perm_cons z).1 h) h1.2 h2.2]
      · have a := h1.1 z hz
        have b := h2.1 y hy
        unfold RB at a b
        omega
theorem rests_len (t s : Int) : ∀ (i : Nat) (l : List Int), (rests t s i l).length = l.length
  | _, [] => rfl
  | i, _ :: l => by simp [rests, rests_len t s (i + 1) l]
theorem rests_mem (t s : Int) : ∀ (i : Nat) (l : List Int) (x : RestR), x ∈ rests t s i l → (i : Int) ≤ x.at_ ∧ x.at_ < i + l.length
  | _, [], _, h => by cases h
  | i, w :: l, x, h => by
    rcases List.mem_cons.1 h with rfl | h
    · simp only [List.length_cons]; omega
    · have := rests_mem t s (i + 1) l x h
      simp only [List.length_cons]
      omega
theorem rests_at (t s : Int) : ∀ (i : Nat) (l : List Int), (rests t s i l).Pairwise fun x y => x.at_ < y.at_
  | _, [] => List.Pairwise.nil
  | i, w :: l => List.pairwise_cons.2 ⟨fun y hy => by have := rests_mem t s (i + 1) l y hy; simp only; omega, rests_at t s (i + 1) l⟩
theorem rests_append (t s : Int) : ∀ (i : Nat) (l : List Int) (w : Int), rests t s i (l ++ [w]) = rests t s i l ++ [⟨(i + l.length : Nat), t * w % s⟩]
  | i, [], w => rfl
  | i, x :: l, w => by
    simp only [List.cons_append, rests, rests_append t s (i + 1) l w, List.length_cons]
    rw [show i + 1 + l.length = i + (l.length + 1) from by omega]
theorem sumI_append : ∀ (l m : List Int), sumI (l ++ m) = sumI l + sumI m
  | [], m => by simp [sumI]
  | x :: l, m => by simp only [List.cons_append, sumI, sumI_append l m]; omega
theorem sumI_nonneg : ∀ l : List Int, (∀ x, x ∈ l → 0 ≤ x) → 0 ≤ sumI l
  | [], _ => Int.le_refl _
  | x :: l, h => by
    have := h x (List.mem_cons_self ..)
    have := sumI_nonneg l fun y hy => h y (List.mem_cons_of_mem _ hy)
    simp only [sumI]
    omega
theorem sumI_le : ∀ (l : List Int) (b : Int), (∀ x, x ∈ l → x ≤ b) → sumI l ≤ b * l.length
  | [], _, _ => by simp [sumI]
  | x :: l, b, h => by
    have := h x (List.mem_cons_self ..)
    have := sumI_le l b fun y hy => h y (List.mem_cons_of_mem _ hy)
    simp only [sumI, List.length_cons]
    rw [Int.natCast_add, Int.mul_add]
    omega
theorem sum_qr (t s : Int) : ∀ l : List Int, s * sumI (l.map fun w => t * w / s) + sumI (l.map fun w => t * w % s) = t * sumI l
  | [] => by simp [sumI]
  | w :: l => by
    have h := sum_qr t s l
    have h2 := Int.mul_ediv_add_emod (t * w) s
    simp only [List.map_cons, sumI, Int.mul_add]
    omega
theorem left_bd {t : Int} {l : List Int} (hs : 0 < sumI l) : 0 ≤ t - sumI (l.map fun w => t * w / sumI l) ∧ t - sumI (l.map fun w => t * w / sumI l) ≤ l.length := by
  have h := sum_qr t (sumI l) l
  have h0 : 0 ≤ sumI (l.map fun w => t * w % sumI l) := sumI_nonneg _ fun x hx => by
    obtain ⟨w, _, rfl⟩ := List.mem_map.1 hx
    exact Int.emod_nonneg _ (by omega)
  have h1 : sumI (l.map fun w => t * w % sumI l) ≤ sumI l * (l.map fun w => t * w % sumI l).length := sumI_le _ _ fun x hx => by
    obtain ⟨w, _, rfl⟩ := List.mem_map.1 hx
    exact Int.le_of_lt (Int.emod_lt_of_pos _ hs)
  rw [List.length_map] at h1
  generalize sumI l = s at *
  generalize sumI (l.map fun w => t * w / s) = q at *
  have e : s * (t - q) = sumI (l.map fun w => t * w % s) := by rw [Int.mul_sub, Int.mul_comm s t]; omega
  rw [← e] at h0 h1
  exact ⟨Int.nonneg_of_mul_nonneg_right h0 hs, Int.le_of_mul_le_mul_left h1 hs⟩
end Go.Xe
namespace Go.Xe
open Go Go.Proofs
set_option maxRecDepth 20000
variable {c : World}
theorem stable_c (a : Option Addr) (cap : Nat) (blk : Option Nat) (l : List RestR) (h : Hp) (ho : RestsOwn h a cap l blk) (h0 : 0 < l.length) (hz : l.length < 20) (hat : l.Pairwise fun x y => x.at_ < y.at_) :
    Call c Tryz.prog 262 #[.slice a l.length cap, .int .i64 l.length, .func (.func 237) #[] #[]] h fun _ h' => ∃ l', l'.Perm l ∧ l'.Pairwise RB ∧ RestsOwn h' a cap l' blk ∧ Chg blk.toList h h' := by
  refine call_of layOk 63 Tryz.func262 Tryz.ntmps262 rfl rfl rfl rfl ?_
  refine wp_loopG layOk [7, 8] 11 22 rfl (fun m vals h' => vals = [.int .i64 0, .int .i64 20] ∧ h' = h) 0 ⟨rfl, rfl⟩ ?_
  rintro m g vals h' - ⟨rfl, rfl⟩
  refine wp_brF (decide_eq_false (by omega)) ?_
  refine wp_done ?_
  show X.wp _ _ _ _ _ _ _
  have hi := insertion_c (c := c) a cap blk [] l [] h' (by simpa using ho) (by simp; omega) h0 hat
  simp only [List.nil_append, List.append_nil, List.length_nil, Nat.zero_add] at hi
  refine wp_call hi ?_
  rintro _ h2 ⟨l', hp, hs, ho2, hc2⟩
  refine wp_loopG layOk [7, 8, 6, 9] 28 62 rfl (fun m vals h' => vals = [.int .i64 0, .int .i64 20, .int .i64 20, undef] ∧ h' = h2) 0 ⟨rfl, rfl⟩ ?_
  rintro m g vals h' - ⟨rfl, rfl⟩
  refine wp_brF (decide_eq_false (by omega)) ?_
  refine wp_done ?_
  show X.wp _ _ _ _ _ _ _
  exact wp_done ⟨rfl, l', hp, hs, ho2, hc2⟩
theorem sortStable_c (a : Option Addr) (cap : Nat) (blk : Option Nat) (l : List RestR) (h : Hp) (ho : RestsOwn h a cap l blk) (h0 : 0 < l.length) (hz : l.length < 20) (hat : l.Pairwise fun x y => x.at_ < y.at_) :
    Call c Tryz.prog 236 #[.slice a l.length cap, .func (.func 237) #[] #[]] h fun _ h' => ∃ l', l'.Perm l ∧ l'.Pairwise RB ∧ RestsOwn h' a cap l' blk ∧ Chg blk.toList h h' := by
  refine call_of layOk 9 Tryz.func236 Tryz.ntmps236 rfl rfl rfl rfl ?_
  refine wp_call (stable_c a cap blk l h ho h0 hz hat) ?_
  rintro _ h2 hx
  exact wp_done ⟨rfl, hx⟩
end Go.Xe
