/- Lemmas on the way: num.Apportion. Parts: those without grams are taken out. slices.Clone. stock.portion, stock.less. stock.less. Contains, Index. The walks of the tree's functions at CI: what each gives, for every tree. The walks of Map's methods at CI, by the list of the pairs. The walks of the tree's functions at SI: what each gives, for every tree. The walks of Map's methods at SI, by the list of the pairs. -/
import Derived.Test.YtebbgoklldmkiaaGreatQ4
namespace Go.Xe
open Go Go.Proofs
set_option maxRecDepth 20000
variable {c : World}
theorem weighed_c (M : List Nat) (t : Int) (l : List Int) (a : Option Addr) (cap : Nat) (h : Hp) (hs : IntsAt M h a cap l) (hz : l.length ≤ 256) (ht0 : 0 ≤ t) (ht : t ≤ 1073741824) (hw : ∀ w, w ∈ l → 0 ≤ w ∧ w ≤ 1073741824) (hsum : 0 < sumI l) :
    Call c Tryz.prog 234 #[.int .i64 t, .slice a l.length cap] h fun v h' => v = .tuple #[.int .i64 (sumI l), .int .i64 0] ∧ h' = h := by
  refine call_of layOk 41 Tryz.func234 Tryz.ntmps234 rfl rfl rfl rfl ?_
  refine wp_brF (decide_eq_false (by omega)) ?_
  refine wp_br (fun h1 => absurd (of_decide_eq_true h1) (by omega)) (fun h1 => ?_)
  repeat refine wp_brF rfl ?_
  refine wp_brF (decide_eq_false (by omega)) ?_
  refine wp_loopG layOk [20, 6, 4, 5, 8] 21 33 rfl (fun m vals h' => ∃ (j : Nat) (u : Value), vals = [.int .i64 j, .int .i64 (sumI (l.take j)), .int .i64 0, .int .i64 0, u] ∧ h' = h ∧ j + m = l.length) l.length ⟨0, undef, rfl, rfl, by omega⟩ ?_
  rintro m g vals h' - ⟨j, u, rfl, rfl, hm⟩
  refine wp_br (fun h1 => ?_) (fun h1 => ?_)
  · have hj : j < l.length := by simpa using h1
    have hje := List.getElem?_eq_getElem hj
    have hwj := hw _ (List.getElem_mem hj)
    have htk : sumI (l.take (j + 1)) = sumI (l.take j) + l[j] := by
      rw [List.take_add_one, hje, sumI_append]
      show _ + (l[j] + 0) = _
      omega
    have hb0 : 0 ≤ sumI (l.take j) := sumI_nonneg _ fun x hx => (hw x (List.mem_of_mem_take hx)).1
    have hb1 := sumI_le (l.take j) 1073741824 fun x hx => (hw x (List.mem_of_mem_take hx)).2
    have hlt := List.length_take_le j l
    obtain ⟨b, o, rfl⟩ := hs.ptr (i := ti3) hj
    refine wp_chk ⟨by omega, by omega⟩ ?_
    refine wp_load (hs.ld1 (i := ti3) enI hje) ?_
    refine wp_br (fun h1 => absurd (of_decide_eq_true h1) (by omega)) (fun h1 => ?_)
    repeat refine wp_brF rfl ?_
    refine wp_brF (decide_eq_false (by omega)) ?_
    refine wp_done ⟨m - 1, by omega, j + 1, .int .i64 l[j], ?_, rfl, by omega⟩
    refine congr (congrArg (fun z z' => [Value.int .i64 z, Value.int .i64 z', .int .i64 0, .int .i64 0, .int .i64 l[j]]) (by rw [w64 (by omega) (by omega)]; omega)) ?_
    rw [htk, w64 (by omega) (by omega)]
  · have hj : ¬ j < l.length := by simpa using h1
    have htk : l.take j = l := List.take_of_length_le (by omega)
    rw [htk]
    refine wp_done ?_
    show X.wp _ _ _ _ _ _ _
    refine wp_br (fun h2 => ?_) (fun h2 => ?_)
    · have : sumI l = 0 := by simpa using h2
      omega
    · repeat refine wp_brF rfl ?_
      exact wp_done ⟨rfl, rfl, rfl⟩

theorem bump_len (q : List Int) (x : RestR) : (bump q x).length = q.length := by simp [bump]
theorem foldl_bump_len : ∀ (xs : List RestR) (q : List Int), (xs.foldl bump q).length = q.length
  | [], _ => rfl
  | x :: xs, q => by rw [List.foldl_cons, foldl_bump_len xs, bump_len]
theorem share_v (t w s qv rv : Int) (h : Hp) (ht0 : 0 ≤ t) (ht : t ≤ 1073741824) (hw0 : 0 ≤ w) (hw : w ≤ 1073741824) (hs0 : 0 < s) (hs : s < 4611686018427387904) (hq : qv = t * w / s) (hr : rv = t * w % s) :
    Call c Tryz.prog 235 #[.int .i64 t, .int .i64 w, .int .i64 s] h fun v h' => v = .tuple #[.int .i64 qv, .int .i64 rv] ∧ h' = h := by
  subst hq; subst hr
  exact share_c t w s h ht0 ht hw0 hw hs0 hs
theorem vary {α : Type} {G : Prop} (x : α) (k : ∀ y, y = x → G) : G := k x rfl
theorem foldl_bump_append (xs : List RestR) (x : RestR) (q : List Int) : (xs ++ [x]).foldl bump q = bump (xs.foldl bump q) x := by simp
theorem set_mid {α : Type} (A : List α) (z x : α) (k : Nat) : (A ++ List.replicate (k + 1) z).set A.length x = A ++ [x] ++ List.replicate k z := by
  simp [List.replicate_succ]

theorem bump_bd (b : Int) (q : List Int) (x : RestR) (h : ∀ y, y ∈ q → 0 ≤ y ∧ y ≤ b) : ∀ y, y ∈ bump q x → 0 ≤ y ∧ y ≤ b + 1 := by
  intro y hy
  unfold bump at hy
  by_cases hi : x.at_.toNat < q.length
  · rcases List.mem_or_eq_of_mem_set hy with hy | rfl
    · have := h y hy
      omega
    · have := h _ (List.getElem_mem hi)
      rw [List.getD_eq_getElem?_getD, List.getElem?_eq_getElem hi]
      simp only [Option.getD_some]
      omega
  · rw [List.set_eq_of_length_le (by omega)] at hy
    have := h y hy
    omega
theorem foldl_bump_bd : ∀ (xs : List RestR) (b : Int) (q : List Int), (∀ y, y ∈ q → 0 ≤ y ∧ y ≤ b) → ∀ y, y ∈ xs.foldl bump q → 0 ≤ y ∧ y ≤ b + xs.length
  | [], b, q, h, y, hy => by have := h y hy; simp; omega
  | x :: xs, b, q, h, y, hy => by
    have := foldl_bump_bd xs (b + 1) (bump q x) (bump_bd b q x h) y hy
    simp only [List.length_cons]
    omega
theorem mem_le_sumI : ∀ (l : List Int) (w : Int), (∀ x, x ∈ l → 0 ≤ x) → w ∈ l → w ≤ sumI l
  | [], _, _, h => by cases h
  | x :: l, w, h0, h => by
    have h1 := sumI_nonneg l fun y hy => h0 y (List.mem_cons_of_mem _ hy)
    have h2 := h0 x (List.mem_cons_self ..)
    simp only [sumI]
    rcases List.mem_cons.1 h with rfl | h
    · omega
    · have := mem_le_sumI l w (fun y hy => h0 y (List.mem_cons_of_mem _ hy)) h
      omega

theorem apportion_c (M : List Nat) (t : Int) (l : List Int) (a : Option Addr) (cap : Nat) (h : Hp) (hs : IntsAt M h a cap l) (h20 : l.length < 20) (ht0 : 0 ≤ t) (ht : t ≤ 1073741824) (hw : ∀ w, w ∈ l → 0 ≤ w ∧ w ≤ 1073741824) (hsum : 0 < sumI l) :
    Call c Tryz.prog 206 #[.int .i64 t, .slice a l.length cap] h fun v h' => ∃ a' cap' blk, v = .tuple #[.slice a' (apportion t l).length cap', .int .i64 0] ∧ IntsOwn h' a' cap' (apportion t l) blk ∧ Chg [] h h' ∧ Fresh h blk := by
  have hsb := sumI_le l 1073741824 fun x hx => (hw x hx).2
  have hlb := left_bd (t := t) hsum
  obtain ⟨q, hq⟩ : ∃ q : List Int, q = l.map fun w => t * w / sumI l := ⟨_, rfl⟩
  rw [← hq] at hlb
  have hql : q.length = l.length := by rw [hq, List.length_map]
  have hq0 : ∀ x, x ∈ q → 0 ≤ x := by
    intro x hx
    rw [hq] at hx
    obtain ⟨w, hwm, rfl⟩ := List.mem_map.1 hx
    exact Int.ediv_nonneg (Int.mul_nonneg ht0 (hw w hwm).1) (by omega)
  have hlen0 : 0 < l.length := by cases l with | nil => simp [sumI] at hsum | cons _ _ => simp
  have hsplit : ∀ j, 0 ≤ sumI (q.take j) ∧ sumI (q.take j) ≤ sumI q := by
    intro j
    have e := sumI_append (q.take j) (q.drop j)
    rw [List.take_append_drop] at e
    have h1 := sumI_nonneg (q.take j) fun x hx => hq0 x (List.mem_of_mem_take hx)
    have h2 := sumI_nonneg (q.drop j) fun x hx => hq0 x (List.mem_of_mem_drop hx)
    omega
  refine call_of layOk 80 Tryz.func206 Tryz.ntmps206 rfl rfl rfl rfl ?_
  refine wp_call (weighed_c M t l a cap h hs (by omega) ht0 ht hw hsum) ?_
  rintro _ h ⟨rfl, rfl⟩
  refine wp_brF rfl ?_
  refine wp_make layOk (t := 34) rfl rfl rfl (enc := elInt) (0 : Int) rfl (fun _ => rfl) (by decide) (m := l.length) (by omega) ?_
  intro bp h1 cs1 hN1 ho1
  refine wp_brF (by simp; omega) ?_
  refine wp_loopK layOk [35, 10, 9, 11, 12, 13, 14] 36 60 rfl [0, 1, 6, 8, 33, 34] [.int .i64 t, .slice a l.length cap, .int .i64 (sumI l), .slice (some ⟨bp, 0, none⟩) l.length l.length, .slice a l.length cap, .int .i64 l.length] rfl [] rfl (fun m vals h' => ∃ (j : Nat) (u1 u2 u3 u4 : Value) (a9 : Option Addr) (cap9 : Nat) (blk9 : Option Nat),
    vals = [.int .i64 j, .int .i64 (t - sumI (q.take j)), .slice a9 (rests t (sumI l) 0 (l.take j)).length cap9, u1, u2, u3, u4] ∧ j + m = l.length ∧ IntsOwn h' (some ⟨bp, 0, none⟩) l.length (q.take j ++ List.replicate m 0) (some bp) ∧
    RestsOwn h' a9 cap9 (rests t (sumI l) 0 (l.take j)) blk9 ∧ Fresh h1 blk9 ∧ Chg [bp] h1 h') l.length ⟨0, undef, undef, undef, undef, none, 0, none, ?_, by omega, (by simp only [List.take_zero, List.nil_append]; exact ho1), OwnAt.nil, .none, Chg.refl _ _⟩ ?_
  · exact congrArg (fun z => [Value.int .i64 0, Value.int .i64 z, Value.slice none 0 0, undef, undef, undef, undef]) (by simp [sumI])
  · rintro ρ0 m g vals h2 - ⟨j, u1, u2, u3, u4, a9, cap9, blk9, rfl, hm, hop, hor, hf9, hc2⟩
    have hc02 : Chg [] h h2 := (hN1.chg []).fresh hc2 (by intro m hm; rcases List.mem_singleton.1 hm with rfl; exact .inr hN1.le)
    have hne : ∀ g, blk9 = some g → g ∉ [bp] := by
      intro g hg hm
      rcases List.mem_singleton.1 hm with rfl
      have h3 := hf9 _ hg
      have h4 := hN1.size
      omega
    refine wp_br (fun h3 => ?_) (fun h3 => ?_)
    · have hj' : (j : Int) < (l.length : Int) := of_decide_eq_true h3
      clear h3
      have hj : j < l.length := by omega
      have hje := List.getElem?_eq_getElem hj
      have hwj := hw _ (List.getElem_mem hj)
      have hm' : m = (m - 1) + 1 := by omega
      rw [hm'] at hop
      refine vary (t * l[j] / sumI l) fun qv hqv => ?_
      refine vary (t * l[j] % sumI l) fun rv hrv => ?_
      have hqj : q[j]? = some qv := by rw [hq, List.getElem?_map, hje, hqv]; rfl
      have hqtk : q.take (j + 1) = q.take j ++ [qv] := by rw [List.take_add_one, hqj]; rfl
      have hqs : sumI (q.take (j + 1)) = sumI (q.take j) + qv := by rw [hqtk, sumI_append]; simp [sumI]
      have hltk : l.take (j + 1) = l.take j ++ [l[j]] := by rw [List.take_add_one, hje]; rfl
      have hrtk : rests t (sumI l) 0 (l.take (j + 1)) = rests t (sumI l) 0 (l.take j) ++ [⟨j, rv⟩] := by
        rw [hltk, rests_append, Nat.zero_add, List.length_take, Nat.min_eq_left (by omega), hrv]
      have hqjl : (q.take j).length = j := by rw [List.length_take]; omega
      have s1 := hsplit j
      have s2 := hsplit (j + 1)
      obtain ⟨b, o, rfl⟩ := hs.ptr (i := ti3) hj
      refine wp_chk ⟨by omega, by omega⟩ ?_
      refine wp_load ((hs.ext hc02).ld1 (i := ti3) enI hje) ?_
      refine wp_call (share_v t l[j] (sumI l) qv rv h2 ht0 ht hwj.1 hwj.2 hsum (by omega) hqv hrv) ?_
      rintro _ _ ⟨rfl, rfl⟩
      refine wp_chk ⟨by omega, by omega⟩ ?_
      refine wp_storeEl (i := ti3) enI hop (j := j) (by simp; omega) (qv) rfl ?_
      intro h4 hop4 hc4 _ _
      have hset := set_mid (q.take j) 0 (qv) (m - 1)
      rw [hqjl, ← hqtk] at hset
      rw [hset] at hop4
      have hor4 := hor.chg hc4 hne
      refine wp_new ?_
      intro b5 h5 hN5
      refine wp_append layOk (t := 306) rfl rfl rfl (i := ti310) enRest rfl rfl rfl (hor4.ext (hN5.chg _)) (M := []) (l' := [⟨j, rv⟩]) (.inr ⟨b5, 0, _, rfl, by simp, hN5.here, Nat.le_refl _, Nat.le_refl _, rfl⟩) (by rw [rests_len, List.length_take]; simp; omega) (by simp) ?_
      intro h6 a6 cap6 blk6 ho6 hc6 hb6
      rw [← hrtk] at ho6
      have hf4 : Fresh h1 blk9 := hf9
      have hsz : h1.size ≤ h5.size := Nat.le_trans hc2.size (Nat.le_trans hc4.size (hN5.chg []).size)
      have hf6 : Fresh h1 blk6 := hf9.step hsz hb6
      refine wp_done ⟨(m - 1), by omega, j + 1, .int .i64 j, .int .i64 l[j], .int .i64 (qv), .int .i64 (rv), a6, cap6, blk6, ?_, by omega, ?_, ho6, hf6, ?_⟩
      · refine congr (congr (congrArg (fun z z' z'' => [Value.int .i64 z, Value.int .i64 z', .slice a6 z'' cap6, .int .i64 j, .int .i64 l[j], .int .i64 (qv), .int .i64 (rv)]) (by rw [w64 (by omega) (by omega)]; omega)) ?_) (congrArg List.length hrtk.symm)
        rw [hqs, w64 (by omega) (by omega)]
        omega
      · refine (hop4.ext (hN5.chg _)).chg hc6 ?_
        intro g hg hm
        cases hg
        exact hne bp (by simpa using hm) (by simp)
      · refine ((hc2.trans hc4).trans ((hN5.chg []).mono (by simp))).fresh hc6 ?_
        intro k hk
        exact .inr (hf9 k (by simpa using hk))
    · have hj' : ¬ ((j : Int) < (l.length : Int)) := of_decide_eq_false h3
      clear h3
      have hj : j = l.length := by omega
      have hm0 : m = 0 := by omega
      have el : l.take j = l := List.take_of_length_le (by omega)
      have eq : q.take j = q := List.take_of_length_le (by omega)
      have hop' : IntsOwn h2 (some ⟨bp, 0, none⟩) l.length q (some bp) := by rw [eq, hm0] at hop; simpa using hop
      obtain ⟨ys, hys⟩ : ∃ ys, ys = sortR (rests t (sumI l) 0 l) := ⟨_, rfl⟩
      have hyl : ys.length = l.length := by rw [hys, (sortR_perm _).length_eq, rests_len]
      have hqb : ∀ y, y ∈ q → 0 ≤ y ∧ y ≤ t := by
        intro y hy
        refine ⟨hq0 y hy, ?_⟩
        rw [hq] at hy
        obtain ⟨w, hwm, rfl⟩ := List.mem_map.1 hy
        have h1 := mem_le_sumI l w (fun x hx => (hw x hx).1) hwm
        exact Int.ediv_le_of_le_mul hsum (Int.mul_le_mul_of_nonneg_left h1 ht0)
      have hzl : (t - sumI (q.take j)).toNat ≤ l.length := by rw [eq]; omega
      have hz0 : 0 ≤ t - sumI (q.take j) := by rw [eq]; omega
      have hfin : apportion t l = (ys.take (t - sumI (q.take j)).toNat).foldl bump q := by rw [eq, hys, apportion, ← hq]
      have hsort := sortStable_c (c := c) a9 cap9 blk9 _ h2 hor (by rw [rests_len, el]; exact hlen0) (by rw [rests_len, el]; exact h20) (rests_at _ _ _ _)
      have hat : ∀ k (hk : k < ys.length), 0 ≤ (ys[k]).at_ ∧ (ys[k]).at_ < l.length := by
        intro k hk
        have hm : ys[k] ∈ rests t (sumI l) 0 l := (sortR_perm _).mem_iff.1 (by rw [← hys]; exact List.getElem_mem hk)
        have := rests_mem _ _ _ _ _ hm
        omega
      refine wp_done ?_
      show X.wp _ _ _ _ _ _ _
      refine wp_call hsort ?_
      rintro _ h3 ⟨ys', hp', hs', hoy, hc3⟩
      have hyy : ys' = ys := by
        rw [hys]
        rw [el] at hp'
        exact sorted_uniq _ _ (hp'.trans (sortR_perm _).symm) hs' (sortR_sorted _ ((rests_at _ _ _ _).imp fun h => by omega))
      subst hyy
      have hcap : l.length ≤ cap9 := by
        rcases hoy with ⟨_, rfl, h9, _⟩ | ⟨_, _, _, _, _, h4, _⟩
        · rw [h9] at hyl; simp at hyl; omega
        · omega
      obtain ⟨b9, rfl, rfl⟩ := hoy.ptr (i := ti310) (j := 0) (by omega)
      refine wp_chk ⟨by omega, by omega⟩ ?_
      refine wp_loopG layOk [67, 16] 68 78 rfl (fun m vals h' => ∃ (k : Nat) (u : Value), vals = [.int .i64 k, u] ∧ k + m = (t - sumI (q.take j)).toNat ∧ IntsOwn h' (some ⟨bp, 0, none⟩) l.length ((ys'.take k).foldl bump q) (some bp) ∧
        RestsOwn h' (some ⟨b9, 0, none⟩) cap9 ys' (some b9) ∧ Chg [bp] h3 h') (t - sumI (q.take j)).toNat ⟨0, ρ0 16, rfl, by omega, ?_, hoy, Chg.refl _ _⟩ ?_
      · exact hop'.chg hc3 (by intro g hg hm; cases hg; exact hne bp (by simpa using (List.mem_singleton.1 hm).symm) (by simp))
      rintro m g vals h4 - ⟨k, u, rfl, hm, hop4, hoy4, hc4⟩
      refine wp_br (fun h5 => ?_) (fun h5 => ?_)
      · have hk0 : (k : Int) < ((t - sumI (q.take j)).toNat : Int) := of_decide_eq_true h5
        have hk : k < (t - sumI (q.take j)).toNat := by omega
        have hky : k < ys'.length := by omega
        have hke := List.getElem?_eq_getElem hky
        have hatk := hat k hky
        have hbl : ((ys'.take k).foldl bump q).length = l.length := by rw [foldl_bump_len, hql]
        have htk : ys'.take (k + 1) = ys'.take k ++ [ys'[k]] := by rw [List.take_add_one, hke]; rfl
        have hbump : (ys'.take (k + 1)).foldl bump q = bump ((ys'.take k).foldl bump q) ys'[k] := by rw [htk, foldl_bump_append]
        have hbb := foldl_bump_bd (ys'.take k) t q hqb
        have hkl : (ys'.take k).length ≤ k := List.length_take_le _ _
        refine vary ((ys'.take k).foldl bump q) fun r hr => ?_
        refine vary ys'[k] fun x hx => ?_
        rw [← hr] at hop4 hbl hbb hbump
        rw [← hx] at hatk hke hbump
        have hxi : x.at_.toNat < r.length := by omega
        have hxz : x.at_ = (x.at_.toNat : Int) := by omega
        have hre := List.getElem?_eq_getElem hxi
        have hrb := hbb _ (List.getElem_mem hxi)
        refine wp_chk ⟨by omega, by omega⟩ ?_
        refine wp_load (hoy4.ld1 (i := ti310) enRest hke) ?_
        refine wp_new ?_
        intro bx h5 hN5
        refine wp_store hN5.here (by rfl) ?_
        intro h6 hU6
        have hc6 := hU6.chgGe (hN5.chg []) hN5.le
        refine wp_load (ld_of hU6.here rfl) ?_
        refine wp_chk ⟨by omega, by omega⟩ ?_
        refine wp_load (Ld.at hxz ((hop4.ext hc6).ld1 (i := ti3) enI hre)) ?_
        refine wp_chk ⟨by omega, by omega⟩ ?_
        refine wp_storeElZ (i := ti3) enI (hop4.ext hc6) x.at_.toNat hxz hxi (IntKind.i64.wrap (r[x.at_.toNat] + 1)) rfl ?_
        intro h7 ho7 hc7 _ _
        have hbr : (ys'.take (k + 1)).foldl bump q = r.set x.at_.toNat (IntKind.i64.wrap (r[x.at_.toNat] + 1)) := by
          rw [hbump, bump, List.getD_eq_getElem?_getD, hre, w64 (by omega) (by omega)]
          rfl
        rw [← hbr] at ho7
        refine wp_done ⟨m - 1, by omega, k + 1, .pointer (some ⟨bx, 0, none⟩), ?_, by omega, ho7, ?_, ?_⟩
        · exact congrArg (fun z => [Value.int .i64 z, Value.pointer (some ⟨bx, 0, none⟩)]) (by rw [w64 (by omega) (by omega)]; omega)
        · exact (hoy4.ext hc6).chg hc7 (by intro g hg hm; cases hg; exact hne b9 rfl hm)
        · exact (hc4.trans (hc6.mono (by simp))).trans hc7
      · have hk' : ¬ ((k : Int) < ((t - sumI (q.take j)).toNat : Int)) := of_decide_eq_false h5
        have hkk : k = (t - sumI (q.take j)).toNat := by omega
        have hop5 : IntsOwn h4 (some ⟨bp, 0, none⟩) l.length (apportion t l) (some bp) := by rw [hfin, ← hkk]; exact hop4
        have hal : (apportion t l).length = l.length := by rw [hfin, foldl_bump_len, hql]
        have hcc : Chg [] h h4 := ((hc02.freshO hc3 (hf9.back (hN1.chg []).size)).fresh hc4 (by intro m hm; rcases List.mem_singleton.1 hm with rfl; exact .inr hN1.le))
        refine wp_done ?_
        show X.wp _ _ _ _ _ _ _
        refine wp_done ⟨rfl, some ⟨bp, 0, none⟩, l.length, some bp, ?_, hop5, hcc, .new hN1⟩
        rw [hal]
        rfl
end Go.Xe
namespace Go.Xe
open Go Go.Proofs
set_option maxRecDepth 20000
variable {c : World}
def vPart (p : PartR) : Value := .agg #[.int .i64 p.clip, .int .i64 p.grams]
def solidL (l : List PartR) : List PartR := l.filter fun p => !(p.grams == 0)

theorem zero_c (p : PartR) (h : Hp) : Call c Tryz.prog 209 #[vPart p] h fun v h' => v = .bool (p.grams == 0) ∧ Chg [] h h' := by
  refine call_of layOk 6 Tryz.func209 Tryz.ntmps209 rfl rfl rfl rfl ?_
  refine wp_new ?_
  intro b h' hN
  refine wp_load (ld_of hN.here rfl) ?_
  exact wp_done ⟨rfl, rfl, hN.chg []⟩

theorem indexZero_c (M : List Nat) (l : List PartR) (a : Option Addr) (cap : Nat) (h : Hp) (hs : PartsAt M h a cap l) (hz : l.length < 900000) :
    Call c Tryz.prog 240 #[.slice a l.length cap, .func (.func 209) #[] #[]] h fun v h' => ∃ r : Int, v = .int .i64 r ∧ Chg [] h h' ∧
      ((r = -1 ∧ solidL l = l) ∨ ∃ (j : Nat), r = j ∧ j < l.length ∧ solidL (l.take j) = l.take j ∧ solidL (l.take (j + 1)) = l.take j) := by
  refine call_of layOk 19 Tryz.func240 Tryz.ntmps240 rfl rfl rfl rfl ?_
  refine wp_loopG layOk [8, 4, 5] 9 18 rfl (fun m vals h' => ∃ (j : Nat) (u v : Value), vals = [.int .i64 j, u, v] ∧ Chg [] h h' ∧ j + m = l.length ∧ solidL (l.take j) = l.take j) l.length ⟨0, _, _, rfl, Chg.refl _ _, by omega, rfl⟩ ?_
  rintro m g vals h' - ⟨j, u, v, rfl, hc, hm, hno⟩
  refine wp_br (fun h1 => ?_) (fun h1 => ?_)
  · have hj : j < l.length := by simpa using h1
    have hje := List.getElem?_eq_getElem hj
    obtain ⟨b, o, rfl⟩ := hs.ptr (i := ti129) hj
    refine wp_chk ⟨by omega, by omega⟩ ?_
    refine wp_load ((hs.ext hc).ld1 (i := ti129) enPart hje) ?_
    refine wp_call (zero_c l[j] h') ?_
    rintro _ h2 ⟨rfl, hc2⟩
    have htk : l.take (j + 1) = l.take j ++ [l[j]] := by rw [List.take_add_one, hje]; rfl
    refine wp_br (fun h2 => ?_) (fun h2 => ?_)
    · refine wp_done ?_
      show X.wp _ _ _ _ _ _ _
      refine wp_done ⟨rfl, _, rfl, hc.trans hc2, .inr ⟨j, rfl, hj, hno, ?_⟩⟩
      have h2' : (l[j].grams == 0) = true := h2
      rw [htk, solidL, List.filter_append]
      simp only [List.filter_cons, h2', List.filter_nil]
      exact (List.append_nil _).trans hno
    · have h2' : (l[j].grams == 0) = false := h2
      refine wp_done ⟨m - 1, by omega, j + 1, u, .int .i64 j, ?_, hc.trans hc2, by omega, ?_⟩
      · exact congrArg (fun z => [Value.int .i64 z, u, Value.int .i64 j]) (by rw [w64 (by omega) (by omega)]; omega)
      · rw [htk, solidL, List.filter_append]
        simp only [List.filter_cons, h2', List.filter_nil]
        exact congrArg (· ++ [l[j]]) hno
  · have hj : ¬ j < l.length := by simpa using h1
    refine wp_done ?_
    show X.wp _ _ _ _ _ _ _
    refine wp_done ⟨rfl, _, rfl, hc, .inl ⟨rfl, ?_⟩⟩
    rw [List.take_of_length_le (by omega)] at hno
    exact hno

theorem solidL_len (l : List PartR) : (solidL l).length ≤ l.length := List.length_filter_le _ _

theorem deleteZero_c (l : List PartR) (a : Option Addr) (cap : Nat) (blk : Option Nat) (h : Hp) (hs : PartsOwn h a cap l blk) (hz : l.length < 900000) :
    Call c Tryz.prog 208 #[.slice a l.length cap, .func (.func 209) #[] #[]] h fun v h' => v = .slice a (solidL l).length cap ∧ PartsOwn h' a cap (solidL l) blk ∧ Chg blk.toList h h' := by
  refine call_of layOk 42 Tryz.func208 Tryz.ntmps208 rfl rfl rfl rfl ?_
  refine wp_call (indexZero_c [] l a cap h (hs.sl (by simp)) hz) ?_
  rintro _ h1 ⟨r, rfl, hc1, hr⟩
  rcases hr with ⟨rfl, hr⟩ | ⟨j, rfl, hj, hr1, hr2⟩
  · refine wp_brT rfl (wp_done ⟨rfl, ?_, ?_, hc1.mono (by simp)⟩)
    · rw [hr]; rfl
    · rw [hr]; exact hs.ext hc1
  · obtain ⟨b, rfl, rfl⟩ := hs.ptr (i := ti129) hj
    refine wp_brF (by simp) ?_
    refine wp_loopG layOk [6, 5, 7] 16 35 rfl (fun m vals h' => ∃ (i j : Nat) (u : Value) (L : List PartR), vals = [.int .i64 j, .int .i64 i, u] ∧ Chg [b] h h' ∧ j + m = l.length ∧ i < j ∧ L.length = l.length ∧
      L.take i = solidL (l.take j) ∧ L.drop j = l.drop j ∧ PartsOwn h' (some ⟨b, 0, none⟩) cap L (some b)) (l.length - (j + 1)) ⟨j, j + 1, undef, l, ?_, hc1.mono (by simp), by omega, by omega, rfl, hr2.symm, rfl, hs.ext hc1⟩ ?_
    · exact congrArg (fun z => [Value.int .i64 z, Value.int .i64 j, undef]) (by rw [w64 (by omega) (by omega)]; omega)
    · rintro m g vals h' - ⟨i, j, u, L, rfl, hc, hm, hij, hL, hti, hdr, ho⟩
      refine wp_br (fun h1 => ?_) (fun h1 => ?_)
      · have hj : j < l.length := by simpa using h1
        have hje : L[j]? = some l[j] := by
          have := congrArg (fun z => z[0]?) hdr
          simpa [List.getElem?_drop, hj] using this
        refine wp_chk ⟨by omega, by omega⟩ ?_
        refine wp_load (ho.ld1 (i := ti129) enPart hje) ?_
        refine wp_new ?_
        intro bv h2 hN2
        refine wp_store hN2.here (by rfl) ?_
        intro h3 hU3
        have hc3 := hU3.chgGe (hN2.chg []) hN2.le
        refine wp_load (ld_of hU3.here rfl) ?_
        refine wp_call (zero_c l[j] h3) ?_
        rintro _ h4 ⟨rfl, hc4⟩
        have htk : l.take (j + 1) = l.take j ++ [l[j]] := by rw [List.take_add_one, List.getElem?_eq_getElem hj]; rfl
        refine wp_br (fun h2 => ?_) (fun h2 => ?_)
        · have h2' : (l[j].grams == 0) = false := by simpa using h2
          refine wp_load (ld_of (hc4.of hU3.here (by simp)) rfl) ?_
          refine wp_chk ⟨by omega, by omega⟩ ?_
          refine wp_storeEl (i := ti129) enPart ((ho.ext hc3).ext hc4) (j := i) (by omega) l[j] rfl ?_
          intro h5 ho5 hc5 _ _
          refine wp_done ⟨m - 1, by omega, i + 1, j + 1, .pointer (some ⟨bv, 0, none⟩), L.set i l[j], ?_, ?_, by omega, by omega, by simpa using hL, ?_, ?_, ho5⟩
          · exact congr (congrArg (fun z z' => [Value.int .i64 z, Value.int .i64 z', Value.pointer (some ⟨bv, 0, none⟩)]) (by rw [w64 (by omega) (by omega)]; omega)) (by rw [w64 (by omega) (by omega)]; omega)
          · exact (hc.trans ((hc3.trans hc4).mono (by simp))).trans hc5
          · rw [htk, solidL, List.filter_append, ← solidL, ← hti]
            simp only [List.filter_cons, h2', List.filter_nil]
            rw [List.take_add_one, List.take_set_of_le (Nat.le_refl _), List.getElem?_set_self (by omega)]
            rfl
          · rw [List.drop_set_of_lt (by omega), ← List.drop_drop, hdr, List.drop_drop]
        · have h2' : (l[j].grams == 0) = true := by simpa using h2
          refine wp_done ⟨m - 1, by omega, i, j + 1, .pointer (some ⟨bv, 0, none⟩), L, ?_, ?_, by omega, by omega, hL, ?_, ?_, (ho.ext hc3).ext hc4⟩
          · exact congrArg (fun z => [Value.int .i64 z, Value.int .i64 i, Value.pointer (some ⟨bv, 0, none⟩)]) (by rw [w64 (by omega) (by omega)]; omega)
          · exact hc.trans ((hc3.trans hc4).mono (by simp))
          · rw [htk, solidL, List.filter_append, ← solidL, ← hti]
            simp only [List.filter_cons, h2', List.filter_nil]
            simp
          · rw [← List.drop_drop, hdr, List.drop_drop]
      · have hj : ¬ j < l.length := by simpa using h1
        have hjn : j = l.length := by omega
        subst hjn
        rw [List.take_length] at hti
        have hcap := ho
        have hlen : (solidL l).length = i := by rw [← hti, List.length_take]; omega
        refine wp_done ?_
        show X.wp _ _ _ _ _ _ _
        refine wp_chk ⟨by omega, by omega⟩ ?_
        refine wp_clear layOk (t := 40) (l := L) rfl rfl rfl (i := ti129) enPart rfl rfl (j := i) (by omega) (by rw [hL]; rfl) ho rfl ?_
        intro h2 ho2 hc2
        have hic : i ≤ cap := by
          rcases ho with ⟨h0, _⟩ | ⟨_, _, _, _, _, h4, _⟩
          · cases h0
          · omega
        refine wp_chk ⟨by omega, by omega⟩ ?_
        refine wp_done ⟨rfl, ?_, ?_, hc.trans hc2⟩
        · rw [hlen]; rfl
        · rw [← hti]; exact ho2

theorem solid_c (l : List PartR) (a : Option Addr) (cap : Nat) (blk : Option Nat) (h : Hp) (hs : PartsOwn h a cap l blk) (hz : l.length < 900000) :
    Call c Tryz.prog 162 #[.slice a l.length cap] h fun v h' => v = .slice a (solidL l).length cap ∧ PartsOwn h' a cap (solidL l) blk ∧ Chg blk.toList h h' := by
  refine call_of layOk 5 Tryz.func162 Tryz.ntmps162 rfl rfl rfl rfl ?_
  refine wp_call (deleteZero_c l a cap blk h hs hz) ?_
  rintro _ h1 ⟨rfl, ho, hc⟩
  exact wp_done ⟨rfl, rfl, ho, hc⟩
end Go.Xe
namespace Go.Xe
open Go Go.Proofs
set_option maxRecDepth 20000
variable {c : World}
theorem clone66_c (M : List Nat) (l : List Int) (a : Option Addr) (cap : Nat) (h : Hp) (hs : SlAt 3 1 elInt M h a cap l) (hz : l.length < 900000) :
    Call c Tryz.prog 66 #[.slice a l.length cap] h fun v h' => ∃ a' cap' blk, v = .slice a' l.length cap' ∧ OwnAt 3 1 elInt h' a' cap' l blk ∧ Chg [] h h' ∧ Fresh h blk := by
  refine call_of layOk 8 Tryz.func66 Tryz.ntmps66 rfl rfl rfl rfl ?_
  rcases id hs with ⟨rfl, rfl, rfl⟩ | ⟨b, o, cs, rfl, hr⟩
  · exact wp_brT rfl (wp_done ⟨rfl, none, 0, none, rfl, OwnAt.nil, Chg.refl _ _, .none⟩)
  · refine wp_brF rfl ?_
    refine wp_new ?_
    intro b' h1 hN
    refine wp_append (l := ([] : List Int)) (cap := 0) layOk (t := 34) rfl rfl rfl enI rfl rfl rfl (.inr ⟨b', _, rfl, rfl, hN.here, Nat.le_refl _, Nat.zero_le _, rfl, rfl⟩) (hs.ext (hN.chg _)) (by simpa using by omega) (by simp) ?_
    intro h2 a2 cap2 blk2 ho hc hb
    exact wp_done ⟨rfl, a2, cap2, blk2, rfl, ho, (hN.chg []).freshO hc (.new hN), (Fresh.new hN).step (hN.chg []).size hb⟩
theorem clone104_c (M : List Nat) (l : List PartR) (a : Option Addr) (cap : Nat) (h : Hp) (hs : SlAt 129 2 elPart M h a cap l) (hz : l.length < 900000) :
    Call c Tryz.prog 104 #[.slice a l.length cap] h fun v h' => ∃ a' cap' blk, v = .slice a' l.length cap' ∧ OwnAt 129 2 elPart h' a' cap' l blk ∧ Chg [] h h' ∧ Fresh h blk := by
  refine call_of layOk 8 Tryz.func104 Tryz.ntmps104 rfl rfl rfl rfl ?_
  rcases id hs with ⟨rfl, rfl, rfl⟩ | ⟨b, o, cs, rfl, hr⟩
  · exact wp_brT rfl (wp_done ⟨rfl, none, 0, none, rfl, OwnAt.nil, Chg.refl _ _, .none⟩)
  · refine wp_brF rfl ?_
    refine wp_new ?_
    intro b' h1 hN
    refine wp_append (l := ([] : List PartR)) (cap := 0) layOk (t := 40) rfl rfl rfl enPart rfl rfl rfl (.inr ⟨b', _, rfl, rfl, hN.here, Nat.le_refl _, Nat.zero_le _, rfl, rfl⟩) (hs.ext (hN.chg _)) (by simpa using by omega) (by simp) ?_
    intro h2 a2 cap2 blk2 ho hc hb
    exact wp_done ⟨rfl, a2, cap2, blk2, rfl, ho, (hN.chg []).freshO hc (.new hN), (Fresh.new hN).step (hN.chg []).size hb⟩
end Go.Xe
namespace Go.Xe
open Go Go.Proofs
set_option maxRecDepth 20000
variable {c : World}
theorem apportion_len (t : Int) (l : List Int) : (apportion t l).length = l.length := by unfold apportion; rw [foldl_bump_len, List.length_map]
def putG : List PartR → List Int → List PartR
  | p :: l, g :: gs => ⟨p.clip, g⟩ :: putG l gs
  | _, _ => []
theorem putG_len : ∀ (l : List PartR) (gs : List Int), gs.length = l.length → (putG l gs).length = l.length
  | [], _, _ => by simp [putG]
  | p :: l, [], h => by simp at h
  | p :: l, g :: gs, h => by simp [putG, putG_len l gs (by simpa using h)]
theorem putG_get : ∀ (l : List PartR) (gs : List Int) (j : Nat) (p : PartR) (g : Int), l[j]? = some p → gs[j]? = some g → (putG l gs)[j]? = some ⟨p.clip, g⟩
  | [], _, _, _, _, h, _ => by simp at h
  | p :: l, [], _, _, _, _, h => by simp at h
  | p :: l, g :: gs, 0, _, _, h1, h2 => by
    simp only [List.getElem?_cons_zero, Option.some.injEq] at h1 h2
    subst h1; subst h2; rfl
  | p :: l, g :: gs, j + 1, _, _, h1, h2 => by
    simp only [List.getElem?_cons_succ] at h1 h2
    simp only [putG, List.getElem?_cons_succ]
    exact putG_get l gs j _ _ h1 h2
def portionL (t : Int) (l : List PartR) : List PartR := putG l (apportion t (l.map (·.grams)))
theorem step_list {α : Type} (A B : List α) (j : Nat) (x : α) (hA : A[j]? = some x) (hjB : j < B.length) (hAl : A.length = B.length) : (A.take j ++ B.drop j).set j x = A.take (j + 1) ++ B.drop (j + 1) := by
  have hjl : (A.take j).length = j := by rw [List.length_take]; omega
  rw [List.take_add_one, hA, List.drop_eq_getElem_cons hjB]
  rw [List.set_append_right _ _ (by omega), hjl, Nat.sub_self, List.set_cons_zero]
  simp

theorem portion_c (M : List Nat) (t : Int) (l : List PartR) (a : Option Addr) (cap : Nat) (h : Hp) (hs : PartsAt M h a cap l) (h20 : l.length < 20) (ht0 : 0 ≤ t) (ht : t ≤ 1073741824) (hw : ∀ p, p ∈ l → 0 ≤ p.grams ∧ p.grams ≤ 1073741824) (hsum : 0 < sumI (l.map (·.grams))) :
    Call c Tryz.prog 159 #[.int .i64 t, .slice a l.length cap] h fun v h' => ∃ a' cap' blk, v = .slice a' (portionL t l).length cap' ∧ PartsOwn h' a' cap' (portionL t l) blk ∧ Chg [] h h' ∧ Fresh h blk := by
  have hpl : (portionL t l).length = l.length := putG_len _ _ (by rw [apportion_len, List.length_map])
  refine call_of layOk 47 Tryz.func159 Tryz.ntmps159 rfl rfl rfl rfl ?_
  refine wp_loopK layOk [14, 5, 7] 15 23 rfl [0, 1, 12, 13] [.int .i64 t, .slice a l.length cap, .slice a l.length cap, .int .i64 l.length] rfl [] rfl (fun m vals h' => ∃ (j : Nat) (u : Value) (a5 : Option Addr) (cap5 : Nat) (blk5 : Option Nat),
    vals = [.int .i64 j, .slice a5 ((l.take j).map (·.grams)).length cap5, u] ∧ j + m = l.length ∧ IntsOwn h' a5 cap5 ((l.take j).map (·.grams)) blk5 ∧ Fresh h blk5 ∧ Chg [] h h') l.length ⟨0, undef, none, 0, none, rfl, by omega, OwnAt.nil, .none, Chg.refl _ _⟩ ?_
  rintro ρ0 m g vals h1 - ⟨j, u, a5, cap5, blk5, rfl, hm, ho, hf, hc⟩
  refine wp_br (fun h3 => ?_) (fun h3 => ?_)
  · have hj' : (j : Int) < (l.length : Int) := of_decide_eq_true h3
    clear h3
    have hj : j < l.length := by omega
    have hje := List.getElem?_eq_getElem hj
    have htk : (l.take (j + 1)).map (·.grams) = (l.take j).map (·.grams) ++ [l[j].grams] := by rw [List.take_add_one, hje, List.map_append]; rfl
    obtain ⟨b, o, rfl⟩ := hs.ptr (i := ti129) hj
    refine wp_chk ⟨by omega, by omega⟩ ?_
    refine wp_load ((hs.ext hc).ld1 (i := ti129) enPart hje) ?_
    refine wp_new ?_
    intro bv h2 hN2
    refine wp_store hN2.here (by rfl) ?_
    intro h3 hU3
    have hc3 := hU3.chgGe (hN2.chg []) hN2.le
    refine wp_load (ld_of hU3.here rfl) ?_
    refine wp_new ?_
    intro b4 h4 hN4
    have ho4 := (ho.ext hc3).ext (hN4.chg _)
    refine wp_append layOk (t := 34) rfl rfl rfl (i := ti3) enI rfl rfl rfl ho4 (M := []) (l' := [l[j].grams]) (.inr ⟨b4, 0, _, rfl, by simp, hN4.here, Nat.le_refl _, Nat.le_refl _, rfl⟩) (by rw [List.length_map, List.length_take]; simp; omega) (by simp) ?_
    intro h6 a6 cap6 blk6 ho6 hc6 hb6
    rw [← htk] at ho6
    have hcc : Chg [] h h4 := hc.trans (hc3.trans (hN4.chg _))
    refine wp_done ⟨m - 1, by omega, j + 1, .pointer (some ⟨bv, 0, none⟩), a6, cap6, blk6, ?_, by omega, ho6, hf.step hcc.size hb6, hcc.freshO hc6 hf⟩
    exact congr (congrArg (fun z z' => [Value.int .i64 z, .slice a6 z' cap6, .pointer (some ⟨bv, 0, none⟩)]) (by rw [w64 (by omega) (by omega)]; omega)) (congrArg List.length htk.symm)
  · have hj' : ¬ ((j : Int) < (l.length : Int)) := of_decide_eq_false h3
    clear h3
    have el : l.take j = l := List.take_of_length_le (by omega)
    rw [el] at ho
    have hap := apportion_c (c := c) [] t (l.map (·.grams)) a5 cap5 h1 (ho.sl (by simp)) (by rw [List.length_map]; exact h20) ht0 ht (by
      intro w hwm
      obtain ⟨p, hp, rfl⟩ := List.mem_map.1 hwm
      exact hw p hp) hsum
    rw [← el] at hap
    refine wp_done ?_
    show X.wp _ _ _ _ _ _ _
    refine wp_call hap ?_
    rintro _ h2 ⟨a8, cap8, blk8, rfl, ho8, hc8, hf8⟩
    rw [el] at ho8
    have hcl := clone104_c (c := c) M l a cap h2 ((hs.ext hc).ext hc8) (by omega)
    refine wp_call hcl ?_
    rintro _ h3 ⟨a10, cap10, blk10, rfl, ho10, hc10, hf10⟩
    have hne : ∀ g, blk8 = some g → ∀ g', blk10 = some g' → g' ≠ g := by
      intro g hg g' hg' e
      have h1 := ho8.lt g hg
      have h2 := hf10 g' hg'
      omega
    refine wp_loopK layOk [34, 11] 35 45 rfl [8, 10, 32, 33] [.slice a8 (apportion t ((l.take j).map (·.grams))).length cap8, .slice a10 l.length cap10, .slice a10 l.length cap10, .int .i64 l.length] rfl [] rfl (fun m vals h' => ∃ (k : Nat) (u : Value),
      vals = [.int .i64 k, u] ∧ k + m = l.length ∧ PartsOwn h' a10 cap10 ((portionL t l).take k ++ l.drop k) blk10 ∧ Chg blk10.toList h3 h') l.length ⟨0, ρ0 11, rfl, by omega, by simpa using ho10, Chg.refl _ _⟩ ?_
    rintro ρ1 m g1 vals h4 - ⟨k, u1, rfl, hm, ho4, hc4⟩
    refine wp_br (fun h5 => ?_) (fun h5 => ?_)
    · have hk' : (k : Int) < (l.length : Int) := of_decide_eq_true h5
      clear h5
      have hk : k < l.length := by omega
      have hke := List.getElem?_eq_getElem hk
      have hal : (apportion t ((l.take j).map (·.grams))).length = l.length := by rw [apportion_len, el, List.length_map]
      have hal2 : k < (apportion t (l.map (·.grams))).length := by rw [apportion_len, List.length_map]; exact hk
      have hae := List.getElem?_eq_getElem hal2
      refine vary (apportion t (l.map (·.grams)))[k] fun gr hgr => ?_
      rw [← hgr] at hae
      have hpe : (portionL t l)[k]? = some ⟨l[k].clip, gr⟩ := putG_get _ _ _ _ _ hke hae
      have hne8 : ∀ g, blk8 = some g → g ∉ blk10.toList := by
        intro g hg hm
        exact hne g hg g (by simpa using hm) rfl
      have ho8' := (ho8.ext hc10).chg hc4 hne8
      obtain ⟨b8, rfl, rfl⟩ := ho8.ptr (i := ti3) hal2
      obtain ⟨b10, rfl, rfl⟩ := ho10.ptr (i := ti129) hk
      have hcur : ((portionL t l).take k ++ l.drop k)[k]? = some l[k] := by
        rw [List.getElem?_append_right (by rw [List.length_take]; omega), List.length_take, Nat.min_eq_left (by omega), Nat.sub_self, List.getElem?_drop]
        exact hke
      refine wp_chk ⟨by omega, by omega⟩ ?_
      refine wp_load (ho8'.ld1 (i := ti3) enI hae) ?_
      refine wp_chk ⟨by omega, by omega⟩ ?_
      refine wp_storeFld (i := ti129) enPart rfl ho4 hcur ⟨l[k].clip, gr⟩ (k := 1) rfl rfl (by decide) ?_
      intro h6 ho6 hc6 _ _
      rw [step_list _ _ _ _ hpe hk hpl] at ho6
      refine wp_done ⟨m - 1, by omega, k + 1, .int .i64 k, ?_, by omega, ho6, hc4.trans hc6⟩
      exact congrArg (fun z => [Value.int .i64 z, .int .i64 k]) (by rw [w64 (by omega) (by omega)]; omega)
    · have hk' : ¬ ((k : Int) < (l.length : Int)) := of_decide_eq_false h5
      clear h5
      rw [List.take_of_length_le (by omega), List.drop_eq_nil_of_le (by omega), List.append_nil] at ho4
      have hcc : Chg [] h h4 := ((hc.trans hc8).trans hc10).freshO hc4 (hf10.back (Nat.le_trans hc.size hc8.size))
      have hfr : Fresh h blk10 := hf10.back (Nat.le_trans hc.size hc8.size)
      refine wp_done ?_
      show X.wp _ _ _ _ _ _ _
      refine wp_done ⟨rfl, a10, cap10, blk10, ?_, ho4, hcc, hfr⟩
      rw [hpl]
      rfl
end Go.Xe
namespace Go.Xe
open Go Go.Proofs
set_option maxRecDepth 20000
variable {c : World}
def subG : List PartR → List PartR → List PartR
  | p :: l, q :: k => ⟨p.clip, p.grams - q.grams⟩ :: subG l k
  | _, _ => []
theorem subG_len : ∀ (l k : List PartR), k.length = l.length → (subG l k).length = l.length
  | [], _, _ => by simp [subG]
  | p :: l, [], h => by simp at h
  | p :: l, q :: k, h => by simp [subG, subG_len l k (by simpa using h)]
theorem subG_get : ∀ (l k : List PartR) (j : Nat) (p q : PartR), l[j]? = some p → k[j]? = some q → (subG l k)[j]? = some ⟨p.clip, p.grams - q.grams⟩
  | [], _, _, _, _, h, _ => by simp at h
  | p :: l, [], _, _, _, _, h => by simp at h
  | p :: l, q :: k, 0, _, _, h1, h2 => by
    simp only [List.getElem?_cons_zero, Option.some.injEq] at h1 h2
    subst h1; subst h2; rfl
  | p :: l, q :: k, j + 1, _, _, h1, h2 => by
    simp only [List.getElem?_cons_succ] at h1 h2
    simp only [subG, List.getElem?_cons_succ]
    exact subG_get l k j _ _ h1 h2
def lessL (l k : List PartR) : List PartR := solidL (subG l k)

theorem less_c (M : List Nat) (l tk : List PartR) (a ak : Option Addr) (cap capk : Nat) (h : Hp) (hs : PartsAt M h a cap l) (hk : PartsAt M h ak capk tk) (hl : tk.length = l.length) (hz : l.length < 900000)
    (hw : ∀ p, p ∈ l → 0 ≤ p.grams ∧ p.grams ≤ 1073741824) (hwk : ∀ p, p ∈ tk → 0 ≤ p.grams ∧ p.grams ≤ 2147483648) :
    Call c Tryz.prog 160 #[.slice a l.length cap, .slice ak tk.length capk] h fun v h' => ∃ a' cap' blk, v = .slice a' (lessL l tk).length cap' ∧ PartsOwn h' a' cap' (lessL l tk) blk ∧ Chg [] h h' ∧ Fresh h blk := by
  have hsl := subG_len l tk hl
  refine call_of layOk 30 Tryz.func160 Tryz.ntmps160 rfl rfl rfl rfl ?_
  refine wp_call (clone104_c M l a cap h hs hz) ?_
  rintro _ h1 ⟨a5, cap5, blk5, rfl, ho5, hc1, hf5⟩
  refine wp_loopK layOk [11, 6] 12 27 rfl [1, 5, 9, 10] [.slice ak tk.length capk, .slice a5 l.length cap5, .slice a5 l.length cap5, .int .i64 l.length] rfl [] rfl (fun m vals h' => ∃ (k : Nat) (u : Value),
      vals = [.int .i64 k, u] ∧ k + m = l.length ∧ PartsOwn h' a5 cap5 ((subG l tk).take k ++ l.drop k) blk5 ∧ Chg blk5.toList h1 h') l.length ⟨0, undef, rfl, by omega, by simpa using ho5, Chg.refl _ _⟩ ?_
  rintro ρ1 m g1 vals h4 - ⟨k, u1, rfl, hm, ho4, hc4⟩
  have hcc : Chg [] h h4 := hc1.freshO hc4 hf5
  refine wp_br (fun h5 => ?_) (fun h5 => ?_)
  · have hk' : (k : Int) < (l.length : Int) := of_decide_eq_true h5
    clear h5
    have hkl : k < l.length := by omega
    have hke := List.getElem?_eq_getElem hkl
    have hkt : k < tk.length := by omega
    have hte := List.getElem?_eq_getElem hkt
    have hb1 := hw _ (List.getElem_mem hkl)
    have hb2 := hwk _ (List.getElem_mem hkt)
    have hpe : (subG l tk)[k]? = some ⟨l[k].clip, l[k].grams - tk[k].grams⟩ := subG_get _ _ _ _ _ hke hte
    obtain ⟨b5, rfl, rfl⟩ := ho5.ptr (i := ti129) hkl
    have hk4 := hk.ext hcc
    obtain ⟨bk, ok, rfl⟩ := hk.ptr (i := ti129) hkt
    have hcur : ((subG l tk).take k ++ l.drop k)[k]? = some l[k] := by
      rw [List.getElem?_append_right (by rw [List.length_take]; omega), List.length_take, Nat.min_eq_left (by omega), Nat.sub_self, List.getElem?_drop]
      exact hke
    have hwr : IntKind.i64.wrap (l[k].grams - tk[k].grams) = l[k].grams - tk[k].grams := w64 (by omega) (by omega)
    refine wp_ord layOk mixed [(0, 13)] [] (by kernel_rfl) ?_
    refine wp_chk ⟨by omega, by omega⟩ ?_
    refine wp_load (ho4.ldF (i := ti129) enPart (tf := ti3) rfl hcur (k := 1) rfl) ?_
    refine wp_chk ⟨by omega, by omega⟩ ?_
    refine wp_load (hk4.ldF (i := ti129) enPart (tf := ti3) rfl hte (k := 1) rfl) ?_
    refine wp_chk ⟨by omega, by omega⟩ ?_
    refine wp_storeFld (i := ti129) enPart rfl ho4 hcur ⟨l[k].clip, IntKind.i64.wrap (l[k].grams - tk[k].grams)⟩ (k := 1) rfl rfl (by decide) ?_
    intro h6 ho6 hc6 _ _
    rw [hwr, step_list _ _ _ _ hpe hkl hsl] at ho6
    refine wp_done ⟨m - 1, by omega, k + 1, .int .i64 k, ?_, by omega, ho6, hc4.trans hc6⟩
    exact congrArg (fun z => [Value.int .i64 z, .int .i64 k]) (by rw [w64 (by omega) (by omega)]; omega)
  · have hk' : ¬ ((k : Int) < (l.length : Int)) := of_decide_eq_false h5
    clear h5
    rw [List.take_of_length_le (by omega), List.drop_eq_nil_of_le (by omega), List.append_nil] at ho4
    have hso := solid_c (c := c) (subG l tk) a5 cap5 blk5 h4 ho4 (by omega)
    rw [hsl] at hso
    refine wp_done ?_
    show X.wp _ _ _ _ _ _ _
    refine wp_call hso ?_
    rintro _ h6 ⟨rfl, ho6, hc6⟩
    exact wp_done ⟨rfl, a5, cap5, blk5, rfl, ho6, hcc.freshO hc6 hf5, hf5⟩
end Go.Xe
namespace Go.Xe
open Go Go.Proofs
set_option maxRecDepth 20000
variable {c : World}
def firstAt (p : Int → Bool) (l : List Int) (r : Int) : Prop := (r = -1 ∧ ∀ x, x ∈ l → p x = false) ∨ ∃ (j : Nat) (x : Int), r = j ∧ l[j]? = some x ∧ p x = true
theorem index_c (M : List Nat) (l : List Int) (x : Int) (a : Option Addr) (cap : Nat) (h : Hp) (hs : IntsAt M h a cap l) (hz : l.length < 900000) :
    Call c Tryz.prog 233 #[.slice a l.length cap, .int .i64 x] h fun v h' => ∃ r, v = .int .i64 r ∧ h' = h ∧ firstAt (fun y => x == y) l r := by
  refine call_of layOk 19 Tryz.func233 Tryz.ntmps233 rfl rfl rfl rfl ?_
  refine wp_loopG layOk [8, 4, 5] 9 18 rfl (fun m vals h' => ∃ (j : Nat) (u v : Value), vals = [.int .i64 j, u, v] ∧ h' = h ∧ j + m = l.length ∧ ∀ (i : Nat) (y : Int), i < j → l[i]? = some y → (x == y) = false) l.length ⟨0, _, _, rfl, rfl, by omega, fun i y hi => by omega⟩ ?_
  rintro m g vals h' - ⟨j, u, v, rfl, rfl, hm, hno⟩
  refine wp_br (fun h1 => ?_) (fun h1 => ?_)
  · have hj : j < l.length := by simpa using h1
    obtain ⟨b, o, rfl, hb, hld⟩ := hs.ld (i := ti3) enI rfl (List.getElem?_eq_getElem hj)
    refine wp_chk ⟨by omega, by omega⟩ ?_
    refine wp_load hld ?_
    refine wp_br (fun h2 => ?_) (fun h2 => ?_)
    · refine wp_done ?_
      show X.wp _ _ _ _ _ _ _
      exact wp_done ⟨rfl, _, rfl, rfl, .inr ⟨j, l[j], rfl, List.getElem?_eq_getElem hj, h2⟩⟩
    · refine wp_done ⟨m - 1, by omega, j + 1, u, .int .i64 j, ?_, rfl, by omega, ?_⟩
      · exact congrArg (fun z => [Value.int .i64 z, u, Value.int .i64 j]) (by rw [w64 (by omega) (by omega)]; omega)
      · intro i y hi hy
        by_cases hij : i = j
        · subst hij
          rw [List.getElem?_eq_getElem hj] at hy
          cases hy
          exact h2
        · exact hno i y (by omega) hy
  · have hj : ¬ j < l.length := by simpa using h1
    refine wp_done ?_
    show X.wp _ _ _ _ _ _ _
    refine wp_done ⟨rfl, _, rfl, rfl, .inl ⟨rfl, fun y hy => ?_⟩⟩
    obtain ⟨i, hi, rfl⟩ := List.mem_iff_getElem.1 hy
    exact hno i _ (by omega) (List.getElem?_eq_getElem hi)
theorem contains_c (M : List Nat) (l : List Int) (x : Int) (a : Option Addr) (cap : Nat) (h : Hp) (hs : IntsAt M h a cap l) (hz : l.length < 900000) :
    Call c Tryz.prog 205 #[.slice a l.length cap, .int .i64 x] h fun v h' => v = .bool (l.contains x) ∧ h' = h := by
  refine call_of layOk 9 Tryz.func205 Tryz.ntmps205 rfl rfl rfl rfl ?_
  refine wp_call (index_c M l x a cap h hs hz) ?_
  rintro _ _ ⟨r, rfl, rfl, hr⟩
  refine wp_done ⟨rfl, congrArg Value.bool ?_, rfl⟩
  rcases hr with ⟨rfl, hn⟩ | ⟨j, y, rfl, hj, hp⟩
  · show decide _ = _
    rw [show decide ((-1 : Int) ≥ 0) = false from rfl]
    refine (Bool.eq_false_iff.2 fun hc => ?_).symm
    have := hn x (by simpa using hc)
    simp at this
  · show decide _ = _
    rw [show decide ((j : Int) ≥ 0) = true from by simp]
    have : y = x := by simpa using Eq.symm (by simpa using hp : x = y)
    subst this
    exact (by simpa using List.mem_of_getElem? hj : l.contains y = true).symm
end Go.Xe
namespace Go.Xe.CI
open Go Go.Proofs
set_option maxRecDepth 20000
variable {c : World}
abbrev At (M : List Nat) (h : Hp) := TreeAt (K := Int) (V := ClipR) 222 ekI elClip M h
theorem len_c (M) (t : Tr Int ClipR) (p : Option Addr) (h : Hp) (ht : At M h t p) : Call c Tryz.prog 200 #[.pointer p] h fun v h' => v = .int .i64 t.size ∧ h' = h := by
  refine call_of layOk 9 Tryz.func200 Tryz.ntmps200 rfl rfl rfl rfl ?_
  cases t with
  | leaf =>
    obtain rfl := ht
    exact wp_brT rfl (wp_done ⟨rfl, rfl, rfl⟩)
  | node l k v r =>
    obtain ⟨b, pl, pr, rfl, hS, hb, hl, hr⟩ := ht
    exact wp_brF rfl (wp_load (ld_of hb rfl) (wp_done ⟨rfl, rfl, rfl⟩))
theorem weight_c (M) (t : Tr Int ClipR) (p : Option Addr) (h : Hp) (ht : At M h t p) (hs : t.size < 1000000) : Call c Tryz.prog 278 #[.pointer p] h fun v h' => v = .int .i64 (t.size + 1) ∧ h' = h := by
  refine call_of layOk 6 Tryz.func278 Tryz.ntmps278 rfl rfl rfl rfl ?_
  refine wp_call (len_c M t p h ht) ?_
  rintro _ _ ⟨rfl, rfl⟩
  exact wp_done ⟨rfl, congrArg (Value.int .i64) (w64 (by omega) (by omega)), rfl⟩
theorem light_c (M) (t t' : Tr Int ClipR) (p p' : Option Addr) (h : Hp) (ht : At M h t p) (ht' : At M h t' p') (hs : t.size < 1000000) (hs' : t'.size < 1000000) : Call c Tryz.prog 253 #[.pointer p, .pointer p'] h fun v h' => v = .bool (decide (t'.size + 1 ≤ 3 * (t.size + 1))) ∧ h' = h := by
  refine call_of layOk 11 Tryz.func253 Tryz.ntmps253 rfl rfl rfl rfl ?_
  refine wp_call (weight_c M t' p' h ht' hs') ?_
  rintro _ _ ⟨rfl, rfl⟩
  refine wp_call (weight_c M t p _ ht hs) ?_
  rintro _ _ ⟨rfl, rfl⟩
  refine wp_done ⟨rfl, congrArg Value.bool ?_, rfl⟩
  rw [w64 (by omega) (by omega)]
  exact decide_eq_decide.2 (by omega)
theorem turned_c (M) (t t' : Tr Int ClipR) (p p' : Option Addr) (h : Hp) (ht : At M h t p) (ht' : At M h t' p') (hs : t.size < 1000000) (hs' : t'.size < 1000000) : Call c Tryz.prog 254 #[.pointer p, .pointer p'] h fun v h' => v = .bool (decide (t.size + 1 < 2 * (t'.size + 1))) ∧ h' = h := by
  refine call_of layOk 11 Tryz.func254 Tryz.ntmps254 rfl rfl rfl rfl ?_
  refine wp_call (weight_c M t p h ht hs) ?_
  rintro _ _ ⟨rfl, rfl⟩
  refine wp_call (weight_c M t' p' _ ht' hs') ?_
  rintro _ _ ⟨rfl, rfl⟩
  refine wp_done ⟨rfl, congrArg Value.bool ?_, rfl⟩
  rw [w64 (by omega) (by omega)]
  exact decide_eq_decide.2 (by omega)
theorem over_c (M : List Nat) (l r : Tr Int ClipR) (pl pr : Option Addr) (k : Int) (v : ClipR) (h : Hp) (hM : Bd M h) (hl : At M h l pl) (hr : At M h r pr) (hs : l.size + r.size < 1000000) : Call c Tryz.prog 227 #[.pointer pl, .int .i64 k, vClip v, .pointer pr] h fun x h' => ∃ p, x = .pointer p ∧ Chg [] h h' ∧ At M h' (.node l k v r) p := by
  refine call_of layOk 21 Tryz.func227 Tryz.ntmps227 rfl rfl rfl rfl ?_
  refine wp_new ?_
  intro bv h1 hN1
  have hc1 := hN1.chg []
  have hM1 := hM.chg hc1
  have hbv := hN1.here
  have hl1 := hl.ext hc1
  have hr1 := hr.ext hc1
  refine wp_ord layOk mixed [(0, 4), (6, 6), (5, 5), (7, 12)] [5, 7] (by kernel_rfl) ?_
  refine wp_load (ld_of hbv rfl) ?_
  refine wp_callE (len_c M l pl _ hl1) ?_
  rintro _ _ ⟨rfl, rfl⟩
  refine ⟨Chg.refl _ _, ?_⟩
  refine wp_callE (len_c M r pr _ hr1) ?_
  rintro _ _ ⟨rfl, rfl⟩
  refine ⟨Chg.refl _ _, ?_⟩
  refine wp_new ?_
  intro b h' hN
  refine wp_done ⟨rfl, _, rfl, hc1.trans (hN.chg _), b, pl, pr, rfl, hM1.fresh hN, ?_, hl1.ext (hN.chg _), hr1.ext (hN.chg _)⟩
  exact hN.here.trans (congrArg (fun z => some (Obj.cells ((ekI k ++ elClip v ++ [Value.pointer pl, Value.pointer pr, z]).toArray) 222 (0, 0))) (congrArg (Value.int .i64) (size_w hs)))
theorem bal_c (M : List Nat) (l r : Tr Int ClipR) (pl pr : Option Addr) (k : Int) (v : ClipR) (h : Hp) (hM : Bd M h) (hl : At M h l pl) (hr : At M h r pr) (hs : l.size + r.size < 1000000) : Call c Tryz.prog 228 #[.pointer pl, .int .i64 k, vClip v, .pointer pr] h fun x h' => ∃ p, x = .pointer p ∧ Chg [] h h' ∧ At M h' (bal l k v r) p := by
  refine call_of layOk 162 Tryz.func228 Tryz.ntmps228 rfl rfl rfl rfl ?_
  refine wp_new ?_
  intro bv h1 hN1
  have hc1 := hN1.chg []
  have hM1 := hM.chg hc1
  have hbv := hN1.here
  have hl := hl.ext hc1
  have hr := hr.ext hc1
  have hM := hM1
  refine wp_call (light_c M l r pl pr _ hl hr (by omega) (by omega)) ?_
  rintro _ _ ⟨rfl, rfl⟩
  refine wp_br (fun h1 => ?_) (fun h1 => ?_)
  · have hli : light l r = false := by simpa [light] using h1
    obtain ⟨rl, rk, rv, rr, rfl⟩ := light_node hli
    obtain ⟨b, ql, qr, rfl, hbM, hb, hrl, hrr⟩ := hr
    simp only [Tr.size] at hs
    refine wp_ord layOk mixed [(0, 8)] [] (by kernel_rfl) ?_
    repeat (first | refine wp_load (ld_of hb rfl) ?_)
    refine wp_call (turned_c M rl rr ql qr _ hrl hrr (by omega) (by omega)) ?_
    rintro _ _ ⟨rfl, rfl⟩
    refine wp_br (fun h2 => ?_) (fun h2 => ?_)
    · have htu : turned rl rr = true := h2
      refine wp_ord layOk mixed [(0, 6), (8, 19), (7, 7), (20, 21)] [7] (by kernel_rfl) ?_
      repeat (first | refine wp_load (ld_of hb rfl) ?_ | refine wp_load (ld_of hbv rfl) ?_)
      refine wp_callE (over_c M l rl pl ql k v _ hM hl hrl (by omega)) ?_
      rintro _ h2 ⟨p2, rfl, hc2, ht2⟩
      refine ⟨hc2, ?_⟩
      refine wp_callN (over_c M (.node l k v rl) rr p2 qr rk rv h2 (hM.chg hc2) ht2 (hrr.ext hc2) (by simp only [Tr.size]; omega)) ?_
      rintro _ h3 ⟨p3, rfl, hc3, ht3⟩
      refine ⟨hc3, wp_done ⟨rfl, p3, rfl, hc1.trans (hc2.trans hc3), ?_⟩⟩
      simpa only [bal, hli, htu, if_true] using ht3
    · have htu : turned rl rr = false := h2
      obtain ⟨ml, mk, mv, mr, rfl⟩ := turned_node htu
      obtain ⟨bm, qml, qmr, rfl, hbmM, hbm, hml, hmr⟩ := hrl
      simp only [Tr.size] at hs
      repeat (first | refine wp_load (ld_of hb rfl) ?_)
      refine wp_ord layOk mixed [(0, 6), (8, 31), (7, 7), (32, 34)] [7, 32] (by kernel_rfl) ?_
      repeat (first | refine wp_load (ld_of hbm rfl) ?_ | refine wp_load (ld_of hb rfl) ?_ | refine wp_load (ld_of hbv rfl) ?_)
      refine wp_callE (over_c M l ml pl qml k v _ hM hl hml (by omega)) ?_
      rintro _ h2 ⟨p2, rfl, hc2, ht2⟩
      refine ⟨hc2, ?_⟩
      refine wp_callE (over_c M mr rr qmr qr rk rv h2 (hM.chg hc2) (hmr.ext hc2) (hrr.ext hc2) (by omega)) ?_
      rintro _ h3 ⟨p3, rfl, hc3, ht3⟩
      refine ⟨hc3, ?_⟩
      refine wp_callN (over_c M (.node l k v ml) (.node mr rk rv rr) p2 p3 mk mv h3 ((hM.chg hc2).chg hc3) (ht2.ext hc3) ht3 (by simp only [Tr.size]; omega)) ?_
      rintro _ h4 ⟨p4, rfl, hc4, ht4⟩
      refine ⟨hc4, wp_done ⟨rfl, p4, rfl, hc1.trans (hc2.trans (hc3.trans hc4)), ?_⟩⟩
      simpa only [bal, hli, htu, if_true, Bool.false_eq_true, if_false] using ht4
  · have hli : light l r = true := by simpa [light] using h1
    refine wp_call (light_c M r l pr pl _ hr hl (by omega) (by omega)) ?_
    rintro _ _ ⟨rfl, rfl⟩
    refine wp_br (fun h1' => ?_) (fun h1' => ?_)
    · have hri : light r l = false := by simpa [light] using h1'
      obtain ⟨ll, lk, lv, lr, rfl⟩ := light_node hri
      obtain ⟨b, ql, qr, rfl, hbM, hb, hll, hlr⟩ := hl
      simp only [Tr.size] at hs
      refine wp_ord layOk mixed [(0, 8)] [] (by kernel_rfl) ?_
      repeat (first | refine wp_load (ld_of hb rfl) ?_)
      refine wp_call (turned_c M lr ll qr ql _ hlr hll (by omega) (by omega)) ?_
      rintro _ _ ⟨rfl, rfl⟩
      refine wp_br (fun h2 => ?_) (fun h2 => ?_)
      · have htu : turned lr ll = true := h2
        refine wp_ord layOk mixed [(0, 21)] [19] (by kernel_rfl) ?_
        repeat (first | refine wp_load (ld_of hb rfl) ?_ | refine wp_load (ld_of hbv rfl) ?_)
        refine wp_callE (over_c M lr r qr pr k v _ hM hlr hr (by omega)) ?_
        rintro _ h2 ⟨p2, rfl, hc2, ht2⟩
        refine ⟨hc2, ?_⟩
        refine wp_callN (over_c M ll (.node lr k v r) ql p2 lk lv h2 (hM.chg hc2) (hll.ext hc2) ht2 (by simp only [Tr.size]; omega)) ?_
        rintro _ h3 ⟨p3, rfl, hc3, ht3⟩
        refine ⟨hc3, wp_done ⟨rfl, p3, rfl, hc1.trans (hc2.trans hc3), ?_⟩⟩
        simpa only [bal, hli, hri, htu, if_true, Bool.true_eq_false, if_false] using ht3
      · have htu : turned lr ll = false := h2
        obtain ⟨ml, mk, mv, mr, rfl⟩ := turned_node htu
        obtain ⟨bm, qml, qmr, rfl, hbmM, hbm, hml, hmr⟩ := hlr
        simp only [Tr.size] at hs
        repeat (first | refine wp_load (ld_of hb rfl) ?_)
        refine wp_ord layOk mixed [(0, 15), (17, 31), (16, 16), (32, 34)] [16, 32] (by kernel_rfl) ?_
        repeat (first | refine wp_load (ld_of hbm rfl) ?_ | refine wp_load (ld_of hb rfl) ?_ | refine wp_load (ld_of hbv rfl) ?_)
        refine wp_callE (over_c M ll ml ql qml lk lv _ hM hll hml (by omega)) ?_
        rintro _ h2 ⟨p2, rfl, hc2, ht2⟩
        refine ⟨hc2, ?_⟩
        refine wp_callE (over_c M mr r qmr pr k v h2 (hM.chg hc2) (hmr.ext hc2) (hr.ext hc2) (by omega)) ?_
        rintro _ h3 ⟨p3, rfl, hc3, ht3⟩
        refine ⟨hc3, ?_⟩
        refine wp_callN (over_c M (.node ll lk lv ml) (.node mr k v r) p2 p3 mk mv h3 ((hM.chg hc2).chg hc3) (ht2.ext hc3) ht3 (by simp only [Tr.size]; omega)) ?_
        rintro _ h4 ⟨p4, rfl, hc4, ht4⟩
        refine ⟨hc4, wp_done ⟨rfl, p4, rfl, hc1.trans (hc2.trans (hc3.trans hc4)), ?_⟩⟩
        simpa only [bal, hli, hri, htu, if_true, Bool.true_eq_false, Bool.false_eq_true, if_false] using ht4
    · have hri : light r l = true := by simpa [light] using h1'
      repeat (first | refine wp_load (ld_of hbv rfl) ?_)
      refine wp_callN (over_c M l r pl pr k v _ hM hl hr hs) ?_
      rintro _ h3 ⟨p3, rfl, hc3, ht3⟩
      refine ⟨hc3, wp_done ⟨rfl, p3, rfl, hc1.trans hc3, ?_⟩⟩
      simpa only [bal, hli, hri, Bool.true_eq_false, if_false] using ht3
theorem put_c (M : List Nat) (k : Int) (v : ClipR) (t : Tr Int ClipR) : ∀ (p : Option Addr) (h : Hp), Bd M h → At M h t p → t.size < 900000 → Call c Tryz.prog 201 #[.pointer p, .int .i64 k, vClip v] h fun x h' => ∃ p', x = .pointer p' ∧ Chg [] h h' ∧ At M h' (putT ltI k v t) p' := by
  induction t with
  | leaf =>
    intro p h hM ht hs
    obtain rfl := ht
    refine call_of layOk 78 Tryz.func201 Tryz.ntmps201 rfl rfl rfl rfl ?_
    refine wp_new ?_
    intro bv h1 hN1
    have hc1 := hN1.chg []
    have hM1 := hM.chg hc1
    have hbv := hN1.here
    have hM := hM1
    refine wp_brT rfl ?_
    repeat (first | refine wp_load (ld_of hbv rfl) ?_)
    refine wp_callN (over_c M .leaf .leaf none none k v _ hM rfl rfl (by simp [Tr.size])) ?_
    rintro _ h3 ⟨p3, rfl, hc3, ht3⟩
    exact ⟨hc3, wp_done ⟨rfl, p3, rfl, hc1.trans hc3, ht3⟩⟩
  | node l a b r ihl ihr =>
    intro p h hM ht hs
    simp only [Tr.size] at hs
    obtain ⟨bb, ql, qr, rfl, hbM, hb, hl, hr⟩ := ht
    refine call_of layOk 78 Tryz.func201 Tryz.ntmps201 rfl rfl rfl rfl ?_
    refine wp_new ?_
    intro bv h1 hN1
    have hc1 := hN1.chg []
    have hM1 := hM.chg hc1
    have hbv := hN1.here
    have hM := hM1
    have hb := hc1.of hb (by simp)
    have hl := hl.ext hc1
    have hr := hr.ext hc1
    refine wp_brF rfl ?_
    refine wp_load (ld_of hb rfl) ?_
    refine wp_br (fun h1 => ?_) (fun h1 => ?_)
    · have hk : ltI k a = true := h1
      refine wp_ord layOk mixed [(0, 5), (7, 18), (6, 6), (19, 20)] [6] (by kernel_rfl) ?_
      repeat (first | refine wp_load (ld_of hb rfl) ?_ | refine wp_load (ld_of hbv rfl) ?_)
      refine wp_callE (ihl ql _ hM hl (by omega)) ?_
      rintro _ h2 ⟨p2, rfl, hc2, ht2⟩
      refine ⟨hc2, ?_⟩
      refine wp_callN (bal_c M (putT ltI k v l) r p2 qr a b h2 (hM.chg hc2) ht2 (hr.ext hc2) (by have := size_putT ltI k v l; omega)) ?_
      rintro _ h3 ⟨p3, rfl, hc3, ht3⟩
      refine ⟨hc3, wp_done ⟨rfl, p3, rfl, hc1.trans (hc2.trans hc3), ?_⟩⟩
      simpa only [putT, hk, if_true] using ht3
    · have hk : ltI k a = false := h1
      refine wp_load (ld_of hb rfl) ?_
      refine wp_br (fun h2 => ?_) (fun h2 => ?_)
      · have hk2 : ltI a k = true := h2
        refine wp_ord layOk mixed [(0, 20)] [18] (by kernel_rfl) ?_
        repeat (first | refine wp_load (ld_of hb rfl) ?_ | refine wp_load (ld_of hbv rfl) ?_)
        refine wp_callE (ihr qr _ hM hr (by omega)) ?_
        rintro _ h2 ⟨p2, rfl, hc2, ht2⟩
        refine ⟨hc2, ?_⟩
        refine wp_callN (bal_c M l (putT ltI k v r) ql p2 a b h2 (hM.chg hc2) (hl.ext hc2) ht2 (by have := size_putT ltI k v r; omega)) ?_
        rintro _ h3 ⟨p3, rfl, hc3, ht3⟩
        refine ⟨hc3, wp_done ⟨rfl, p3, rfl, hc1.trans (hc2.trans hc3), ?_⟩⟩
        simpa only [putT, hk, hk2, if_true, Bool.false_eq_true, if_false] using ht3
      · have hk2 : ltI a k = false := h2
        refine wp_ord layOk mixed [(0, 11)] [] (by kernel_rfl) ?_
        repeat (first | refine wp_load (ld_of hb rfl) ?_ | refine wp_load (ld_of hbv rfl) ?_)
        refine wp_callN (over_c M l r ql qr k v _ hM hl hr (by omega)) ?_
        rintro _ h3 ⟨p3, rfl, hc3, ht3⟩
        refine ⟨hc3, wp_done ⟨rfl, p3, rfl, hc1.trans hc3, ?_⟩⟩
        simpa only [putT, hk, hk2, Bool.false_eq_true, if_false] using ht3
theorem find_c (M : List Nat) (k : Int) (t : Tr Int ClipR) (p : Option Addr) (h : Hp) (ht : At M h t p) : Call c Tryz.prog 137 #[.agg #[.pointer p], .int .i64 k] h fun x h' => ∃ p', x = .pointer p' ∧ Chg [] h h' ∧ At M h' (findT ltI eqI k t) p' := by
  refine call_of layOk 33 Tryz.func137 Tryz.ntmps137 rfl rfl rfl rfl ?_
  refine wp_new ?_
  intro bm h1 hN1
  have hc1 := hN1.chg []
  refine wp_load (ld_of hN1.here rfl) ?_
  refine wp_loopG layOk [5] 8 31 rfl (fun j vals h' => ∃ t' q, vals = [.pointer q] ∧ h' = h1 ∧ At M h1 t' q ∧ findT ltI eqI k t' = findT ltI eqI k t ∧ j = t'.size) t.size ⟨t, p, rfl, rfl, ht.ext hc1, rfl, rfl⟩ ?_
  rintro j g vals h' - ⟨t', q, rfl, rfl, ht', hf, rfl⟩
  cases t' with
  | leaf =>
    obtain rfl := ht'
    repeat refine wp_brF rfl ?_
    refine wp_done ?_
    show X.wp _ _ _ _ _ _ _
    exact wp_done ⟨rfl, _, rfl, hc1, by rw [← hf]; rfl⟩
  | node l a b r =>
    obtain ⟨bb, ql, qr, rfl, hbM, hb, hl, hr⟩ := id ht'
    repeat (first | refine wp_brT rfl ?_ | refine wp_load (ld_of hb rfl) ?_)
    refine wp_br (fun h1 => ?_) (fun h1 => ?_)
    · have he : eqI a k = false := by simpa [eqI] using h1
      refine wp_load (ld_of hb rfl) ?_
      refine wp_br (fun h2 => ?_) (fun h2 => ?_)
      · refine wp_load (ld_of hb rfl) ?_
        have hk : ltI k a = true := h2
        refine wp_done ⟨l.size, by simp only [Tr.size]; omega, l, ql, rfl, rfl, hl, ?_, rfl⟩
        rw [← hf]; simp only [findT, he, hk, Bool.false_eq_true, if_false, if_true]
      · refine wp_load (ld_of hb rfl) ?_
        have hk : ltI k a = false := h2
        refine wp_done ⟨r.size, by simp only [Tr.size]; omega, r, qr, rfl, rfl, hr, ?_, rfl⟩
        rw [← hf]; simp only [findT, he, hk, Bool.false_eq_true, if_false]
    · have he : eqI a k = true := by simpa [eqI] using h1
      refine wp_done ?_
      show X.wp _ _ _ _ _ _ _
      refine wp_done ⟨rfl, _, rfl, hc1, ?_⟩
      rw [← hf]; simpa only [findT, he, if_true] using ht'
end Go.Xe.CI
namespace Go.Xe.CI
open Go Go.Proofs
set_option maxRecDepth 20000
variable {c : World}
abbrev Mp (M : List Nat) (h : Hp) := MapAt (K := Int) (V := ClipR) 222 ekI elClip ltI M h
def toldV : Tr Int ClipR → Value
  | .leaf => .tuple #[Value.int .i64 0, zClip, .bool false]
  | .node _ k v _ => .tuple #[.int .i64 k, vClip v, .bool true]
theorem told_c (M) (t : Tr Int ClipR) (p : Option Addr) (h : Hp) (ht : At M h t p) : Call c Tryz.prog 136 #[.pointer p] h fun v h' => v = toldV t ∧ Chg [] h h' := by
  refine call_ofM layOk 17 Tryz.func136 Tryz.ntmps136 rfl rfl rfl ?_
  refine wp_new ?_
  intro bv h1 hN1
  have hc1 := hN1.chg []
  have ht := ht.ext hc1
  cases t with
  | leaf =>
    obtain rfl := ht
    refine wp_brT rfl ?_
    refine wp_ord layOk mixed [(0, 4)] [] (by kernel_rfl) ?_
    refine wp_load (ld_of hN1.here rfl) ?_
    refine wp_store hN1.here (by rfl) ?_
    intro h2 hU
    exact wp_done (finM_at [_, _, _] rfl ⟨rfl, ⟨_, _, _, rfl, rfl, ld_of hU.here rfl⟩, rfl, trivial⟩ ⟨rfl, hU.chgGe hc1 hN1.le⟩)
  | node l k v r =>
    obtain ⟨b, pl, pr, rfl, hS, hb, hl, hr⟩ := ht
    refine wp_brF rfl ?_
    refine wp_ord layOk mixed [(0, 10)] [] (by kernel_rfl) ?_
    refine wp_load (ld_of hb rfl) ?_
    refine wp_load (ld_of hb rfl) ?_
    refine wp_store hN1.here (by rfl) ?_
    intro h2 hU
    exact wp_done (finM_at [_, _, _] rfl ⟨rfl, ⟨_, _, _, rfl, rfl, ld_of hU.here rfl⟩, rfl, trivial⟩ ⟨rfl, hU.chgGe hc1 hN1.le⟩)
def getV (k : Int) (xs : List (Int × ClipR)) : Value := match getL eqI k xs with
  | none => .tuple #[zClip, .bool false]
  | some v => .tuple #[vClip v, .bool true]
theorem get_c (M) (xs : List (Int × ClipR)) (k : Int) (p : Option Addr) (h : Hp) (hm : Mp M h p xs) : Call c Tryz.prog 100 #[.agg #[.pointer p], .int .i64 k] h fun v h' => v = getV k xs ∧ Chg [] h h' := by
  obtain ⟨t, ht, rfl, hs⟩ := hm
  refine call_ofM layOk 19 Tryz.func100 Tryz.ntmps100 rfl rfl rfl ?_
  refine wp_new ?_
  intro bm h1 hN1
  have hc1 := hN1.chg []
  refine wp_new ?_
  intro bo h2 hN2
  have hc2 := hc1.trans (hN2.chg [])
  refine wp_load (ld_of (hN2.of hN1.here) rfl) ?_
  refine wp_call (find_c M k t p _ (ht.ext hc2)) ?_
  rintro _ h3 ⟨q, rfl, hc3, hq⟩
  refine wp_call (told_c M _ q _ hq) ?_
  rintro _ h4 ⟨rfl, hc4⟩
  have hf := findT_get loI k t hs
  generalize findT ltI eqI k t = f at hf
  cases f with
  | leaf =>
    have ho := hc4.of (hc3.of hN2.here (by simp)) (by simp)
    refine wp_new ?_
    intro bt h5 hN5
    refine wp_store hN5.here (by rfl) ?_
    intro h6 hU6
    refine wp_load (ld_of hU6.here rfl) ?_
    have hne : bo ≠ bt := hN5.ne ho
    refine wp_store (hU6.of (hN5.of ho) hne) (by rfl) ?_
    intro h7 hU7
    have hc6 := hU6.chgGe (h0 := h4) (M := []) (hN5.chg []) hN5.le
    refine wp_done (finM_at [_, _] rfl ⟨⟨_, _, _, rfl, rfl, ld_of hU7.here rfl⟩, rfl, trivial⟩ ⟨?_, ?_⟩)
    · unfold getV; rw [hf]; rfl
    · have := hN2.le
      have := hc1.size
      exact hU7.chgGe (hc2.trans (hc3.trans (hc4.trans hc6))) (by omega)
  | node l a b r =>
    have ho := hc4.of (hc3.of hN2.here (by simp)) (by simp)
    refine wp_new ?_
    intro bt h5 hN5
    refine wp_store hN5.here (by rfl) ?_
    intro h6 hU6
    refine wp_load (ld_of hU6.here rfl) ?_
    have hne : bo ≠ bt := hN5.ne ho
    refine wp_store (hU6.of (hN5.of ho) hne) (by rfl) ?_
    intro h7 hU7
    have hc6 := hU6.chgGe (h0 := h4) (M := []) (hN5.chg []) hN5.le
    refine wp_done (finM_at [_, _] rfl ⟨⟨_, _, _, rfl, rfl, ld_of hU7.here rfl⟩, rfl, trivial⟩ ⟨?_, ?_⟩)
    · unfold getV; rw [hf.2]; rfl
    · have := hN2.le
      have := hc1.size
      exact hU7.chgGe (hc2.trans (hc3.trans (hc4.trans hc6))) (by omega)
theorem mput_c (M : List Nat) (xs : List (Int × ClipR)) (k : Int) (v : ClipR) (p : Option Addr) (h : Hp) (hM : Bd M h) (hm : Mp M h p xs) (hz : xs.length < 900000) : Call c Tryz.prog 152 #[.agg #[.pointer p], .int .i64 k, vClip v] h fun x h' => ∃ q, x = .agg #[.pointer q] ∧ Chg [] h h' ∧ Mp M h' q (insL ltI k v xs) := by
  obtain ⟨t, ht, rfl, hs⟩ := hm
  rw [Tr.length_toL] at hz
  refine call_ofM layOk 13 Tryz.func152 Tryz.ntmps152 rfl rfl rfl ?_
  refine wp_new ?_
  intro bm h1 hN1
  have hc1 := hN1.chg []
  refine wp_new ?_
  intro bv h2 hN2
  have hc2 := hc1.trans (hN2.chg [])
  refine wp_new ?_
  intro bo h3 hN3
  have hc3 := hc2.trans (hN3.chg [])
  refine wp_load (ld_of (hN3.of (hN2.of hN1.here)) rfl) ?_
  refine wp_load (ld_of (hN3.of hN2.here) rfl) ?_
  refine wp_call (put_c M k v t p _ (hM.chg hc3) (ht.ext hc3) hz) ?_
  rintro _ h4 ⟨q, rfl, hc4, hq⟩
  have ho := hc4.of hN3.here (by simp)
  refine wp_store ho (by rfl) ?_
  intro h5 hU5
  have hn : h.size ≤ bo := Nat.le_trans hc2.size hN3.le
  have hc5 := hU5.chgGe (hc3.trans hc4) hn
  refine wp_done (finM_at [_] rfl ⟨⟨_, _, _, rfl, rfl, ld_of hU5.here rfl⟩, trivial⟩ ⟨q, rfl, hc5, putT ltI k v t, ?_, toL_putT loI k v t hs, sorted_insL loI k v _ hs⟩)
  exact TreeAt.wr hU5 ho (by decide) hq
theorem mlen_c (M) (xs : List (Int × ClipR)) (p : Option Addr) (h : Hp) (hm : Mp M h p xs) : Call c Tryz.prog 150 #[.agg #[.pointer p]] h fun v h' => v = .int .i64 xs.length ∧ Chg [] h h' := by
  obtain ⟨t, ht, rfl, hs⟩ := hm
  rw [Tr.length_toL]
  refine call_of layOk 6 Tryz.func150 Tryz.ntmps150 rfl rfl rfl rfl ?_
  refine wp_new ?_
  intro bm h1 hN1
  have hc1 := hN1.chg []
  refine wp_load (ld_of hN1.here rfl) ?_
  refine wp_call (len_c M t p _ (ht.ext hc1)) ?_
  rintro _ _ ⟨rfl, rfl⟩
  exact wp_done ⟨rfl, rfl, hc1⟩
end Go.Xe.CI
namespace Go.Xe.SI
open Go Go.Proofs
set_option maxRecDepth 20000
variable {c : World}
abbrev At (M : List Nat) (h : Hp) := TreeAt (K := ByteArray) (V := Int) 300 ekS elInt M h
theorem len_c (M) (t : Tr ByteArray Int) (p : Option Addr) (h : Hp) (ht : At M h t p) : Call c Tryz.prog 255 #[.pointer p] h fun v h' => v = .int .i64 t.size ∧ h' = h := by
  refine call_of layOk 9 Tryz.func255 Tryz.ntmps255 rfl rfl rfl rfl ?_
  cases t with
  | leaf =>
    obtain rfl := ht
    exact wp_brT rfl (wp_done ⟨rfl, rfl, rfl⟩)
  | node l k v r =>
    obtain ⟨b, pl, pr, rfl, hS, hb, hl, hr⟩ := ht
    exact wp_brF rfl (wp_load (ld_of hb rfl) (wp_done ⟨rfl, rfl, rfl⟩))
theorem weight_c (M) (t : Tr ByteArray Int) (p : Option Addr) (h : Hp) (ht : At M h t p) (hs : t.size < 1000000) : Call c Tryz.prog 279 #[.pointer p] h fun v h' => v = .int .i64 (t.size + 1) ∧ h' = h := by
  refine call_of layOk 6 Tryz.func279 Tryz.ntmps279 rfl rfl rfl rfl ?_
  refine wp_call (len_c M t p h ht) ?_
  rintro _ _ ⟨rfl, rfl⟩
  exact wp_done ⟨rfl, congrArg (Value.int .i64) (w64 (by omega) (by omega)), rfl⟩
theorem light_c (M) (t t' : Tr ByteArray Int) (p p' : Option Addr) (h : Hp) (ht : At M h t p) (ht' : At M h t' p') (hs : t.size < 1000000) (hs' : t'.size < 1000000) : Call c Tryz.prog 256 #[.pointer p, .pointer p'] h fun v h' => v = .bool (decide (t'.size + 1 ≤ 3 * (t.size + 1))) ∧ h' = h := by
  refine call_of layOk 11 Tryz.func256 Tryz.ntmps256 rfl rfl rfl rfl ?_
  refine wp_call (weight_c M t' p' h ht' hs') ?_
  rintro _ _ ⟨rfl, rfl⟩
  refine wp_call (weight_c M t p _ ht hs) ?_
  rintro _ _ ⟨rfl, rfl⟩
  refine wp_done ⟨rfl, congrArg Value.bool ?_, rfl⟩
  rw [w64 (by omega) (by omega)]
  exact decide_eq_decide.2 (by omega)
theorem turned_c (M) (t t' : Tr ByteArray Int) (p p' : Option Addr) (h : Hp) (ht : At M h t p) (ht' : At M h t' p') (hs : t.size < 1000000) (hs' : t'.size < 1000000) : Call c Tryz.prog 257 #[.pointer p, .pointer p'] h fun v h' => v = .bool (decide (t.size + 1 < 2 * (t'.size + 1))) ∧ h' = h := by
  refine call_of layOk 11 Tryz.func257 Tryz.ntmps257 rfl rfl rfl rfl ?_
  refine wp_call (weight_c M t p h ht hs) ?_
  rintro _ _ ⟨rfl, rfl⟩
  refine wp_call (weight_c M t' p' _ ht' hs') ?_
  rintro _ _ ⟨rfl, rfl⟩
  refine wp_done ⟨rfl, congrArg Value.bool ?_, rfl⟩
  rw [w64 (by omega) (by omega)]
  exact decide_eq_decide.2 (by omega)
theorem over_c (M : List Nat) (l r : Tr ByteArray Int) (pl pr : Option Addr) (k : ByteArray) (v : Int) (h : Hp) (hM : Bd M h) (hl : At M h l pl) (hr : At M h r pr) (hs : l.size + r.size < 1000000) : Call c Tryz.prog 229 #[.pointer pl, .string k, Value.int .i64 v, .pointer pr] h fun x h' => ∃ p, x = .pointer p ∧ Chg [] h h' ∧ At M h' (.node l k v r) p := by
  refine call_of layOk 21 Tryz.func229 Tryz.ntmps229 rfl rfl rfl rfl ?_
  refine wp_call (len_c M l pl h hl) ?_
  rintro _ _ ⟨rfl, rfl⟩
  refine wp_call (len_c M r pr _ hr) ?_
  rintro _ _ ⟨rfl, rfl⟩
  refine wp_new ?_
  intro b h' hN
  refine wp_done ⟨rfl, _, rfl, hN.chg _, b, pl, pr, rfl, hM.fresh hN, ?_, hl.ext (hN.chg _), hr.ext (hN.chg _)⟩
  exact hN.here.trans (congrArg (fun z => some (Obj.cells ((ekS k ++ elInt v ++ [Value.pointer pl, Value.pointer pr, z]).toArray) 300 (0, 0))) (congrArg (Value.int .i64) (size_w hs)))
theorem bal_c (M : List Nat) (l r : Tr ByteArray Int) (pl pr : Option Addr) (k : ByteArray) (v : Int) (h : Hp) (hM : Bd M h) (hl : At M h l pl) (hr : At M h r pr) (hs : l.size + r.size < 1000000) : Call c Tryz.prog 230 #[.pointer pl, .string k, Value.int .i64 v, .pointer pr] h fun x h' => ∃ p, x = .pointer p ∧ Chg [] h h' ∧ At M h' (bal l k v r) p := by
  refine call_of layOk 162 Tryz.func230 Tryz.ntmps230 rfl rfl rfl rfl ?_
  have hc1 := Chg.refl [] h
  refine wp_call (light_c M l r pl pr _ hl hr (by omega) (by omega)) ?_
  rintro _ _ ⟨rfl, rfl⟩
  refine wp_br (fun h1 => ?_) (fun h1 => ?_)
  · have hli : light l r = false := by simpa [light] using h1
    obtain ⟨rl, rk, rv, rr, rfl⟩ := light_node hli
    obtain ⟨b, ql, qr, rfl, hbM, hb, hrl, hrr⟩ := hr
    simp only [Tr.size] at hs
    refine wp_ord layOk mixed [(0, 8)] [] (by kernel_rfl) ?_
    repeat (first | refine wp_load (ld_of hb rfl) ?_)
    refine wp_call (turned_c M rl rr ql qr _ hrl hrr (by omega) (by omega)) ?_
    rintro _ _ ⟨rfl, rfl⟩
    refine wp_br (fun h2 => ?_) (fun h2 => ?_)
    · have htu : turned rl rr = true := h2
      refine wp_ord layOk mixed [(0, 6), (8, 19), (7, 7), (20, 21)] [7] (by kernel_rfl) ?_
      repeat (first | refine wp_load (ld_of hb rfl) ?_)
      refine wp_callE (over_c M l rl pl ql k v _ hM hl hrl (by omega)) ?_
      rintro _ h2 ⟨p2, rfl, hc2, ht2⟩
      refine ⟨hc2, ?_⟩
      refine wp_callN (over_c M (.node l k v rl) rr p2 qr rk rv h2 (hM.chg hc2) ht2 (hrr.ext hc2) (by simp only [Tr.size]; omega)) ?_
      rintro _ h3 ⟨p3, rfl, hc3, ht3⟩
      refine ⟨hc3, wp_done ⟨rfl, p3, rfl, hc1.trans (hc2.trans hc3), ?_⟩⟩
      simpa only [bal, hli, htu, if_true] using ht3
    · have htu : turned rl rr = false := h2
      obtain ⟨ml, mk, mv, mr, rfl⟩ := turned_node htu
      obtain ⟨bm, qml, qmr, rfl, hbmM, hbm, hml, hmr⟩ := hrl
      simp only [Tr.size] at hs
      repeat (first | refine wp_load (ld_of hb rfl) ?_)
      refine wp_ord layOk mixed [(0, 6), (8, 31), (7, 7), (32, 34)] [7, 32] (by kernel_rfl) ?_
      repeat (first | refine wp_load (ld_of hbm rfl) ?_ | refine wp_load (ld_of hb rfl) ?_)
      refine wp_callE (over_c M l ml pl qml k v _ hM hl hml (by omega)) ?_
      rintro _ h2 ⟨p2, rfl, hc2, ht2⟩
      refine ⟨hc2, ?_⟩
      refine wp_callE (over_c M mr rr qmr qr rk rv h2 (hM.chg hc2) (hmr.ext hc2) (hrr.ext hc2) (by omega)) ?_
      rintro _ h3 ⟨p3, rfl, hc3, ht3⟩
      refine ⟨hc3, ?_⟩
      refine wp_callN (over_c M (.node l k v ml) (.node mr rk rv rr) p2 p3 mk mv h3 ((hM.chg hc2).chg hc3) (ht2.ext hc3) ht3 (by simp only [Tr.size]; omega)) ?_
      rintro _ h4 ⟨p4, rfl, hc4, ht4⟩
      refine ⟨hc4, wp_done ⟨rfl, p4, rfl, hc1.trans (hc2.trans (hc3.trans hc4)), ?_⟩⟩
      simpa only [bal, hli, htu, if_true, Bool.false_eq_true, if_false] using ht4
  · have hli : light l r = true := by simpa [light] using h1
    refine wp_call (light_c M r l pr pl _ hr hl (by omega) (by omega)) ?_
    rintro _ _ ⟨rfl, rfl⟩
    refine wp_br (fun h1' => ?_) (fun h1' => ?_)
    · have hri : light r l = false := by simpa [light] using h1'
      obtain ⟨ll, lk, lv, lr, rfl⟩ := light_node hri
      obtain ⟨b, ql, qr, rfl, hbM, hb, hll, hlr⟩ := hl
      simp only [Tr.size] at hs
      refine wp_ord layOk mixed [(0, 8)] [] (by kernel_rfl) ?_
      repeat (first | refine wp_load (ld_of hb rfl) ?_)
      refine wp_call (turned_c M lr ll qr ql _ hlr hll (by omega) (by omega)) ?_
      rintro _ _ ⟨rfl, rfl⟩
      refine wp_br (fun h2 => ?_) (fun h2 => ?_)
      · have htu : turned lr ll = true := h2
        refine wp_ord layOk mixed [(0, 21)] [19] (by kernel_rfl) ?_
        repeat (first | refine wp_load (ld_of hb rfl) ?_)
        refine wp_callE (over_c M lr r qr pr k v _ hM hlr hr (by omega)) ?_
        rintro _ h2 ⟨p2, rfl, hc2, ht2⟩
        refine ⟨hc2, ?_⟩
        refine wp_callN (over_c M ll (.node lr k v r) ql p2 lk lv h2 (hM.chg hc2) (hll.ext hc2) ht2 (by simp only [Tr.size]; omega)) ?_
        rintro _ h3 ⟨p3, rfl, hc3, ht3⟩
        refine ⟨hc3, wp_done ⟨rfl, p3, rfl, hc1.trans (hc2.trans hc3), ?_⟩⟩
        simpa only [bal, hli, hri, htu, if_true, Bool.true_eq_false, if_false] using ht3
      · have htu : turned lr ll = false := h2
        obtain ⟨ml, mk, mv, mr, rfl⟩ := turned_node htu
        obtain ⟨bm, qml, qmr, rfl, hbmM, hbm, hml, hmr⟩ := hlr
        simp only [Tr.size] at hs
        repeat (first | refine wp_load (ld_of hb rfl) ?_)
        refine wp_ord layOk mixed [(0, 15), (17, 31), (16, 16), (32, 34)] [16, 32] (by kernel_rfl) ?_
        repeat (first | refine wp_load (ld_of hbm rfl) ?_ | refine wp_load (ld_of hb rfl) ?_)
        refine wp_callE (over_c M ll ml ql qml lk lv _ hM hll hml (by omega)) ?_
        rintro _ h2 ⟨p2, rfl, hc2, ht2⟩
        refine ⟨hc2, ?_⟩
        refine wp_callE (over_c M mr r qmr pr k v h2 (hM.chg hc2) (hmr.ext hc2) (hr.ext hc2) (by omega)) ?_
        rintro _ h3 ⟨p3, rfl, hc3, ht3⟩
        refine ⟨hc3, ?_⟩
        refine wp_callN (over_c M (.node ll lk lv ml) (.node mr k v r) p2 p3 mk mv h3 ((hM.chg hc2).chg hc3) (ht2.ext hc3) ht3 (by simp only [Tr.size]; omega)) ?_
        rintro _ h4 ⟨p4, rfl, hc4, ht4⟩
        refine ⟨hc4, wp_done ⟨rfl, p4, rfl, hc1.trans (hc2.trans (hc3.trans hc4)), ?_⟩⟩
        simpa only [bal, hli, hri, htu, if_true, Bool.true_eq_false, Bool.false_eq_true, if_false] using ht4
    · have hri : light r l = true := by simpa [light] using h1'
      refine wp_callN (over_c M l r pl pr k v _ hM hl hr hs) ?_
      rintro _ h3 ⟨p3, rfl, hc3, ht3⟩
      refine ⟨hc3, wp_done ⟨rfl, p3, rfl, hc1.trans hc3, ?_⟩⟩
      simpa only [bal, hli, hri, Bool.true_eq_false, if_false] using ht3
theorem put_c (M : List Nat) (k : ByteArray) (v : Int) (t : Tr ByteArray Int) : ∀ (p : Option Addr) (h : Hp), Bd M h → At M h t p → t.size < 900000 → Call c Tryz.prog 202 #[.pointer p, .string k, Value.int .i64 v] h fun x h' => ∃ p', x = .pointer p' ∧ Chg [] h h' ∧ At M h' (putT ltS k v t) p' := by
  induction t with
  | leaf =>
    intro p h hM ht hs
    obtain rfl := ht
    refine call_of layOk 78 Tryz.func202 Tryz.ntmps202 rfl rfl rfl rfl ?_
    have hc1 := Chg.refl [] h
    refine wp_brT rfl ?_
    refine wp_callN (over_c M .leaf .leaf none none k v _ hM rfl rfl (by simp [Tr.size])) ?_
    rintro _ h3 ⟨p3, rfl, hc3, ht3⟩
    exact ⟨hc3, wp_done ⟨rfl, p3, rfl, hc1.trans hc3, ht3⟩⟩
  | node l a b r ihl ihr =>
    intro p h hM ht hs
    simp only [Tr.size] at hs
    obtain ⟨bb, ql, qr, rfl, hbM, hb, hl, hr⟩ := ht
    refine call_of layOk 78 Tryz.func202 Tryz.ntmps202 rfl rfl rfl rfl ?_
    have hc1 := Chg.refl [] h
    refine wp_brF rfl ?_
    refine wp_load (ld_of hb rfl) ?_
    refine wp_br (fun h1 => ?_) (fun h1 => ?_)
    · have hk : ltS k a = true := h1
      refine wp_ord layOk mixed [(0, 5), (7, 18), (6, 6), (19, 20)] [6] (by kernel_rfl) ?_
      repeat (first | refine wp_load (ld_of hb rfl) ?_)
      refine wp_callE (ihl ql _ hM hl (by omega)) ?_
      rintro _ h2 ⟨p2, rfl, hc2, ht2⟩
      refine ⟨hc2, ?_⟩
      refine wp_callN (bal_c M (putT ltS k v l) r p2 qr a b h2 (hM.chg hc2) ht2 (hr.ext hc2) (by have := size_putT ltS k v l; omega)) ?_
      rintro _ h3 ⟨p3, rfl, hc3, ht3⟩
      refine ⟨hc3, wp_done ⟨rfl, p3, rfl, hc1.trans (hc2.trans hc3), ?_⟩⟩
      simpa only [putT, hk, if_true] using ht3
    · have hk : ltS k a = false := h1
      refine wp_load (ld_of hb rfl) ?_
      refine wp_br (fun h2 => ?_) (fun h2 => ?_)
      · have hk2 : ltS a k = true := h2
        refine wp_ord layOk mixed [(0, 20)] [18] (by kernel_rfl) ?_
        repeat (first | refine wp_load (ld_of hb rfl) ?_)
        refine wp_callE (ihr qr _ hM hr (by omega)) ?_
        rintro _ h2 ⟨p2, rfl, hc2, ht2⟩
        refine ⟨hc2, ?_⟩
        refine wp_callN (bal_c M l (putT ltS k v r) ql p2 a b h2 (hM.chg hc2) (hl.ext hc2) ht2 (by have := size_putT ltS k v r; omega)) ?_
        rintro _ h3 ⟨p3, rfl, hc3, ht3⟩
        refine ⟨hc3, wp_done ⟨rfl, p3, rfl, hc1.trans (hc2.trans hc3), ?_⟩⟩
        simpa only [putT, hk, hk2, if_true, Bool.false_eq_true, if_false] using ht3
      · have hk2 : ltS a k = false := h2
        refine wp_ord layOk mixed [(0, 11)] [] (by kernel_rfl) ?_
        repeat (first | refine wp_load (ld_of hb rfl) ?_)
        refine wp_callN (over_c M l r ql qr k v _ hM hl hr (by omega)) ?_
        rintro _ h3 ⟨p3, rfl, hc3, ht3⟩
        refine ⟨hc3, wp_done ⟨rfl, p3, rfl, hc1.trans hc3, ?_⟩⟩
        simpa only [putT, hk, hk2, Bool.false_eq_true, if_false] using ht3
theorem find_c (M : List Nat) (k : ByteArray) (t : Tr ByteArray Int) (p : Option Addr) (h : Hp) (ht : At M h t p) : Call c Tryz.prog 199 #[.agg #[.pointer p], .string k] h fun x h' => ∃ p', x = .pointer p' ∧ Chg [] h h' ∧ At M h' (findT ltS eqS k t) p' := by
  refine call_of layOk 33 Tryz.func199 Tryz.ntmps199 rfl rfl rfl rfl ?_
  refine wp_new ?_
  intro bm h1 hN1
  have hc1 := hN1.chg []
  refine wp_load (ld_of hN1.here rfl) ?_
  refine wp_loopG layOk [5] 8 31 rfl (fun j vals h' => ∃ t' q, vals = [.pointer q] ∧ h' = h1 ∧ At M h1 t' q ∧ findT ltS eqS k t' = findT ltS eqS k t ∧ j = t'.size) t.size ⟨t, p, rfl, rfl, ht.ext hc1, rfl, rfl⟩ ?_
  rintro j g vals h' - ⟨t', q, rfl, rfl, ht', hf, rfl⟩
  cases t' with
  | leaf =>
    obtain rfl := ht'
    repeat refine wp_brF rfl ?_
    refine wp_done ?_
    show X.wp _ _ _ _ _ _ _
    exact wp_done ⟨rfl, _, rfl, hc1, by rw [← hf]; rfl⟩
  | node l a b r =>
    obtain ⟨bb, ql, qr, rfl, hbM, hb, hl, hr⟩ := id ht'
    repeat (first | refine wp_brT rfl ?_ | refine wp_load (ld_of hb rfl) ?_)
    refine wp_br (fun h1 => ?_) (fun h1 => ?_)
    · have he : eqS a k = false := by simpa [eqS] using h1
      refine wp_load (ld_of hb rfl) ?_
      refine wp_br (fun h2 => ?_) (fun h2 => ?_)
      · refine wp_load (ld_of hb rfl) ?_
        have hk : ltS k a = true := h2
        refine wp_done ⟨l.size, by simp only [Tr.size]; omega, l, ql, rfl, rfl, hl, ?_, rfl⟩
        rw [← hf]; simp only [findT, he, hk, Bool.false_eq_true, if_false, if_true]
      · refine wp_load (ld_of hb rfl) ?_
        have hk : ltS k a = false := h2
        refine wp_done ⟨r.size, by simp only [Tr.size]; omega, r, qr, rfl, rfl, hr, ?_, rfl⟩
        rw [← hf]; simp only [findT, he, hk, Bool.false_eq_true, if_false]
    · have he : eqS a k = true := by simpa [eqS] using h1
      refine wp_done ?_
      show X.wp _ _ _ _ _ _ _
      refine wp_done ⟨rfl, _, rfl, hc1, ?_⟩
      rw [← hf]; simpa only [findT, he, if_true] using ht'
end Go.Xe.SI
namespace Go.Xe.SI
open Go Go.Proofs
set_option maxRecDepth 20000
variable {c : World}
abbrev Mp (M : List Nat) (h : Hp) := MapAt (K := ByteArray) (V := Int) 300 ekS elInt ltS M h
def toldV : Tr ByteArray Int → Value
  | .leaf => .tuple #[Value.string ⟨#[]⟩, Value.int .i64 0, .bool false]
  | .node _ k v _ => .tuple #[.string k, Value.int .i64 v, .bool true]
theorem told_c (M) (t : Tr ByteArray Int) (p : Option Addr) (h : Hp) (ht : At M h t p) : Call c Tryz.prog 198 #[.pointer p] h fun v h' => v = toldV t ∧ Chg [] h h' := by
  refine call_of layOk 17 Tryz.func198 Tryz.ntmps198 rfl rfl rfl rfl ?_
  cases t with
  | leaf =>
    obtain rfl := ht
    exact wp_brT rfl (wp_done ⟨rfl, rfl, Chg.refl _ _⟩)
  | node l k v r =>
    obtain ⟨b, pl, pr, rfl, hS, hb, hl, hr⟩ := ht
    refine wp_brF rfl ?_
    refine wp_ord layOk mixed [(0, 10)] [] (by kernel_rfl) ?_
    refine wp_load (ld_of hb rfl) ?_
    refine wp_load (ld_of hb rfl) ?_
    exact wp_done ⟨rfl, rfl, Chg.refl _ _⟩
def getV (k : ByteArray) (xs : List (ByteArray × Int)) : Value := match getL eqS k xs with
  | none => .tuple #[Value.int .i64 0, .bool false]
  | some v => .tuple #[Value.int .i64 v, .bool true]
theorem get_c (M) (xs : List (ByteArray × Int)) (k : ByteArray) (p : Option Addr) (h : Hp) (hm : Mp M h p xs) : Call c Tryz.prog 149 #[.agg #[.pointer p], .string k] h fun v h' => v = getV k xs ∧ Chg [] h h' := by
  obtain ⟨t, ht, rfl, hs⟩ := hm
  refine call_of layOk 19 Tryz.func149 Tryz.ntmps149 rfl rfl rfl rfl ?_
  refine wp_new ?_
  intro bm h1 hN1
  have hc1 := hN1.chg []
  have hc2 := hc1
  refine wp_load (ld_of hN1.here rfl) ?_
  refine wp_call (find_c M k t p _ (ht.ext hc2)) ?_
  rintro _ h3 ⟨q, rfl, hc3, hq⟩
  refine wp_call (told_c M _ q _ hq) ?_
  rintro _ h4 ⟨rfl, hc4⟩
  have hf := findT_get loS k t hs
  generalize findT ltS eqS k t = f at hf
  cases f with
  | leaf =>
    exact wp_done ⟨rfl, (by unfold getV; rw [hf]; rfl), hc2.trans (hc3.trans hc4)⟩
  | node l a b r =>
    exact wp_done ⟨rfl, (by unfold getV; rw [hf.2]; rfl), hc2.trans (hc3.trans hc4)⟩
theorem mput_c (M : List Nat) (xs : List (ByteArray × Int)) (k : ByteArray) (v : Int) (p : Option Addr) (h : Hp) (hM : Bd M h) (hm : Mp M h p xs) (hz : xs.length < 900000) : Call c Tryz.prog 153 #[.agg #[.pointer p], .string k, Value.int .i64 v] h fun x h' => ∃ q, x = .agg #[.pointer q] ∧ Chg [] h h' ∧ Mp M h' q (insL ltS k v xs) := by
  obtain ⟨t, ht, rfl, hs⟩ := hm
  rw [Tr.length_toL] at hz
  refine call_ofM layOk 13 Tryz.func153 Tryz.ntmps153 rfl rfl rfl ?_
  refine wp_new ?_
  intro bm h1 hN1
  have hc1 := hN1.chg []
  refine wp_new ?_
  intro bo h3 hN3
  have hc3 := hc1.trans (hN3.chg [])
  refine wp_load (ld_of (hN3.of hN1.here) rfl) ?_
  refine wp_call (put_c M k v t p _ (hM.chg hc3) (ht.ext hc3) hz) ?_
  rintro _ h4 ⟨q, rfl, hc4, hq⟩
  have ho := hc4.of hN3.here (by simp)
  refine wp_store ho (by rfl) ?_
  intro h5 hU5
  have hn : h.size ≤ bo := Nat.le_trans hc1.size hN3.le
  have hc5 := hU5.chgGe (hc3.trans hc4) hn
  refine wp_done (finM_at [_] rfl ⟨⟨_, _, _, rfl, rfl, ld_of hU5.here rfl⟩, trivial⟩ ⟨q, rfl, hc5, putT ltS k v t, ?_, toL_putT loS k v t hs, sorted_insL loS k v _ hs⟩)
  exact TreeAt.wr hU5 ho (by decide) hq
end Go.Xe.SI
