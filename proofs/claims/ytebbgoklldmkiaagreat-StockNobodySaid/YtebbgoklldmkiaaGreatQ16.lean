/- num.Apportion. -/
import Derived.Test.YtebbgoklldmkiaaGreatQ14
import Derived.Test.YtebbgoklldmkiaaGreatQ15
namespace Go.Xe
open Go Go.Proofs
set_option maxRecDepth 20000
variable {c : World}
theorem weighed_c (M : List Nat) (t : Int) (l : List Int) (a : Option Addr) (cap : Nat) (h : Hp) (hs : IntsAt M h a cap l) (hz : l.length ≤ 256) (ht0 : 0 ≤ t) (ht : t ≤ 1073741824) (hw : ∀ w, w ∈ l → 0 ≤ w ∧ w ≤ 1073741824) (hsum : 0 < sumI l) :
    Call c Tryz.prog 234 #[.int .i64 t, .slice a l.length cap] h fun v h' => v = .tuple #[.int .i64 (sumI l), .int .i64 0] ∧ h' = h := by
  refine call_of layOk 41 Tryz.func234 Tryz.ntmps234 rfl rfl rfl rfl ?_
  refine wp_brF (decide_eq_false (by omega)) ?_
  refine wp_br (fun h1 => absurd (of_decide_eq_true h1) (by omega)) (fun h1 => ?_)
  repeat refine wp_brF rfl ?_
  refine wp_brF (decide_eq_false (by omega)) ?_
  refine wp_loopG layOk [20, 6, 4, 5, 8] 21 33 rfl (fun m vals h' => ∃ (j : Nat) (u : Value), vals = [.int .i64 j, .int .i64 (sumI (l.take j)), .int .i64 0, .int .i64 0, u] ∧ h' = h ∧ j + m = l.length) l.length ⟨0, undef, rfl, rfl, by omega⟩ ?_
  rintro m g vals h' - ⟨j, u, rfl, rfl, hm⟩
  refine wp_br (fun h1 => ?_) (fun h1 => ?_)
  · have hj : j < l.length := by simpa using h1
    have hje := List.getElem?_eq_getElem hj
    have hwj := hw _ (List.getElem_mem hj)
    have htk : sumI (l.take (j + 1)) = sumI (l.take j) + l[j] := by
      rw [List.take_add_one, hje, sumI_append]
      show _ + (l[j] + 0) = _
      omega
    have hb0 : 0 ≤ sumI (l.take j) := sumI_nonneg _ fun x hx => (hw x (List.mem_of_mem_take hx)).1
    have hb1 := sumI_le (l.take j) 1073741824 fun x hx => (hw x (List.mem_of_mem_take hx)).2
    have hlt := List.length_take_le j l
    obtain ⟨b, o, rfl⟩ := hs.ptr (i := ti3) hj
    refine wp_chk ⟨by omega, by omega⟩ ?_
    refine wp_load (hs.ld1 (i := ti3) enI hje) ?_
    refine wp_br (fun h1 => absurd (of_decide_eq_true h1) (by omega)) (fun h1 => ?_)
    repeat refine wp_brF rfl ?_
    refine wp_brF (decide_eq_false (by omega)) ?_
    refine wp_done ⟨m - 1, by omega, j + 1, .int .i64 l[j], ?_, rfl, by omega⟩
    refine congr (congrArg (fun z z' => [Value.int .i64 z, Value.int .i64 z', .int .i64 0, .int .i64 0, .int .i64 l[j]]) (by rw [w64 (by omega) (by omega)]; omega)) ?_
    rw [htk, w64 (by omega) (by omega)]
  · have hj : ¬ j < l.length := by simpa using h1
    have htk : l.take j = l := List.take_of_length_le (by omega)
    rw [htk]
    refine wp_done ?_
    show X.wp _ _ _ _ _ _ _
    refine wp_br (fun h2 => ?_) (fun h2 => ?_)
    · have : sumI l = 0 := by simpa using h2
      omega
    · repeat refine wp_brF rfl ?_
      exact wp_done ⟨rfl, rfl, rfl⟩

theorem bump_len (q : List Int) (x : RestR) : (bump q x).length = q.length := by simp [bump]
theorem foldl_bump_len : ∀ (xs : List RestR) (q : List Int), (xs.foldl bump q).length = q.length
  | [], _ => rfl
  | x :: xs, q => by rw [List.foldl_cons, foldl_bump_len xs, bump_len]
theorem share_v (t w s qv rv : Int) (h : Hp) (ht0 : 0 ≤ t) (ht : t ≤ 1073741824) (hw0 : 0 ≤ w) (hw : w ≤ 1073741824) (hs0 : 0 < s) (hs : s < 4611686018427387904) (hq : qv = t * w / s) (hr : rv = t * w % s) :
    Call c Tryz.prog 235 #[.int .i64 t, .int .i64 w, .int .i64 s] h fun v h' => v = .tuple #[.int .i64 qv, .int .i64 rv] ∧ h' = h := by
  subst hq; subst hr
  exact share_c t w s h ht0 ht hw0 hw hs0 hs
theorem vary {α : Type} {G : Prop} (x : α) (k : ∀ y, y = x → G) : G := k x rfl
theorem foldl_bump_append (xs : List RestR) (x : RestR) (q : List Int) : (xs ++ [x]).foldl bump q = bump (xs.foldl bump q) x := by simp
theorem set_mid {α : Type} (A : List α) (z x : α) (k : Nat) : (A ++ List.replicate (k + 1) z).set A.length x = A ++ [x] ++ List.replicate k z := by
  simp [List.replicate_succ]

theorem bump_bd (b : Int) (q : List Int) (x : RestR) (h : ∀ y, y ∈ q → 0 ≤ y ∧ y ≤ b) : ∀ y, y ∈ bump q x → 0 ≤ y ∧ y ≤ b + 1 := by
  intro y hy
  unfold bump at hy
  by_cases hi : x.at_.toNat < q.length
  · rcases List.mem_or_eq_of_mem_set hy with hy | rfl
    · have := h y hy
      omega
    · have := h _ (List.getElem_mem hi)
      rw [List.getD_eq_getElem?_getD, List.getElem?_eq_getElem hi]
      simp only [Option.getD_some]
      omega
  · rw [List.set_eq_of_length_le (by omega)] at hy
    have := h y hy
    omega
theorem foldl_bump_bd : ∀ (xs : List RestR) (b : Int) (q : List Int), (∀ y, y ∈ q → 0 ≤ y ∧ y ≤ b) → ∀ y, y ∈ xs.foldl bump q → 0 ≤ y ∧ y ≤ b + xs.length
  | [], b, q, h, y, hy => by have := h y hy; simp; omega
  | x :: xs, b, q, h, y, hy => by
    have := foldl_bump_bd xs (b + 1) (bump q x) (bump_bd b q x h) y hy
    simp only [List.length_cons]
    omega
theorem mem_le_sumI : ∀ (l : List Int) (w : Int), (∀ x, x ∈ l → 0 ≤ x) → w ∈ l → w ≤ sumI l
  | [], _, _, h => by cases h
  | x :: l, w, h0, h => by
    have h1 := sumI_nonneg l fun y hy => h0 y (List.mem_cons_of_mem _ hy)
    have h2 := h0 x (List.mem_cons_self ..)
    simp only [sumI]
    rcases List.mem_cons.1 h with rfl | h
    · omega
    · have := mem_le_sumI l w (fun y hy => h0 y (List.mem_cons_of_mem _ hy)) h
      omega

theorem apportion_c (M : List Nat) (t : Int) (l : List Int) (a : Option Addr) (cap : Nat) (h : Hp) (hs : IntsAt M h a cap l) (h20 : l.length < 20) (ht0 : 0 ≤ t) (ht : t ≤ 1073741824) (hw : ∀ w, w ∈ l → 0 ≤ w ∧ w ≤ 1073741824) (hsum : 0 < sumI l) :
    Call c Tryz.prog 206 #[.int .i64 t, .slice a l.length cap] h fun v h' => ∃ a' cap' blk, v = .tuple #[.slice a' (apportion t l).length cap', .int .i64 0] ∧ IntsOwn h' a' cap' (apportion t l) blk ∧ Chg [] h h' ∧ Fresh h blk := by
  have hsb := sumI_le l 1073741824 fun x hx => (hw x hx).2
  have hlb := left_bd (t := t) hsum
  obtain ⟨q, hq⟩ : ∃ q : List Int, q = l.map fun w => t * w / sumI l := ⟨_, rfl⟩
  rw [← hq] at hlb
  have hql : q.length = l.length := by rw [hq, List.length_map]
  have hq0 : ∀ x, x ∈ q → 0 ≤ x := by
    intro x hx
    rw [hq] at hx
    obtain ⟨w, hwm, rfl⟩ := List.mem_map.1 hx
    exact Int.ediv_nonneg (Int.mul_nonneg ht0 (hw w hwm).1) (by omega)
  have hlen0 : 0 < l.length := by cases l with | nil => simp [sumI] at hsum | cons _ _ => simp
  have hsplit : ∀ j, 0 ≤ sumI (q.take j) ∧ sumI (q.take j) ≤ sumI q := by
    intro j
    have e := sumI_append (q.take j) (q.drop j)
    rw [List.take_append_drop] at e
    have h1 := sumI_nonneg (q.take j) fun x hx => hq0 x (List.mem_of_mem_take hx)
    have h2 := sumI_nonneg (q.drop j) fun x hx => hq0 x (List.mem_of_mem_drop hx)
    omega
  refine call_of layOk 80 Tryz.func206 Tryz.ntmps206 rfl rfl rfl rfl ?_
  refine wp_call (weighed_c M t l a cap h hs (by omega) ht0 ht hw hsum) ?_
  rintro _ h ⟨rfl, rfl⟩
  refine wp_brF rfl ?_
  refine wp_make layOk (t := 34) rfl rfl rfl (enc := elInt) (0 : Int) rfl (fun _ => rfl) (by decide) (m := l.length) (by omega) ?_
  intro bp h1 cs1 hN1 ho1
  refine wp_brF (by simp; omega) ?_
  refine wp_loopK layOk [35, 10, 9, 11, 12, 13, 14] 36 60 rfl [0, 1, 6, 8, 33, 34] [.int .i64 t, .slice a l.length cap, .int .i64 (sumI l), .slice (some ⟨bp, 0, none⟩) l.length l.length, .slice a l.length cap, .int .i64 l.length] rfl [] rfl (fun m vals h' => ∃ (j : Nat) (u1 u2 u3 u4 : Value) (a9 : Option Addr) (cap9 : Nat) (blk9 : Option Nat),
    vals = [.int .i64 j, .int .i64 (t - sumI (q.take j)), .slice a9 (rests t (sumI l) 0 (l.take j)).length cap9, u1, u2, u3, u4] ∧ j + m = l.length ∧ IntsOwn h' (some ⟨bp, 0, none⟩) l.length (q.take j ++ List.replicate m 0) (some bp) ∧
    RestsOwn h' a9 cap9 (rests t (sumI l) 0 (l.take j)) blk9 ∧ Fresh h1 blk9 ∧ Chg [bp] h1 h') l.length ⟨0, undef, undef, undef, undef, none, 0, none, ?_, by omega, (by simp only [List.take_zero, List.nil_append]; exact ho1), OwnAt.nil, .none, Chg.refl _ _⟩ ?_
  · exact congrArg (fun z => [Value.int .i64 0, Value.int .i64 z, Value.slice none 0 0, undef, undef, undef, undef]) (by simp [sumI])
  · rintro ρ0 m g vals h2 - ⟨j, u1, u2, u3, u4, a9, cap9, blk9, rfl, hm, hop, hor, hf9, hc2⟩
    have hc02 : Chg [] h h2 := (hN1.chg []).fresh hc2 (by intro m hm; rcases List.mem_singleton.1 hm with rfl; exact .inr hN1.le)
    have hne : ∀ g, blk9 = some g → g ∉ [bp] := by
      intro g hg hm
      rcases List.mem_singleton.1 hm with rfl
      have h3 := hf9 _ hg
      have h4 := hN1.size
      omega
    refine wp_br (fun h3 => ?_) (fun h3 => ?_)
    · have hj' : (j : Int) < (l.length : Int) := of_decide_eq_true h3
      clear h3
      have hj : j < l.length := by omega
      have hje := List.getElem?_eq_getElem hj
      have hwj := hw _ (List.getElem_mem hj)
      have hm' : m = (m - 1) + 1 := by omega
      rw [hm'] at hop
      refine vary (t * l[j] / sumI l) fun qv hqv => ?_
      refine vary (t * l[j] % sumI l) fun rv hrv => ?_
      have hqj : q[j]? = some qv := by rw [hq, List.getElem?_map, hje, hqv]; rfl
      have hqtk : q.take (j + 1) = q.take j ++ [qv] := by rw [List.take_add_one, hqj]; rfl
      have hqs : sumI (q.take (j + 1)) = sumI (q.take j) + qv := by rw [hqtk, sumI_append]; simp [sumI]
      have hltk : l.take (j + 1) = l.take j ++ [l[j]] := by rw [List.take_add_one, hje]; rfl
      have hrtk : rests t (sumI l) 0 (l.take (j + 1)) = rests t (sumI l) 0 (l.take j) ++ [⟨j, rv⟩] := by
        rw [hltk, rests_append, Nat.zero_add, List.length_take, Nat.min_eq_left (by omega), hrv]
      have hqjl : (q.take j).length = j := by rw [List.length_take]; omega
      have s1 := hsplit j
      have s2 := hsplit (j + 1)
      obtain ⟨b, o, rfl⟩ := hs.ptr (i := ti3) hj
      refine wp_chk ⟨by omega, by omega⟩ ?_
      refine wp_load ((hs.ext hc02).ld1 (i := ti3) enI hje) ?_
      refine wp_call (share_v t l[j] (sumI l) qv rv h2 ht0 ht hwj.1 hwj.2 hsum (by omega) hqv hrv) ?_
      rintro _ _ ⟨rfl, rfl⟩
      refine wp_chk ⟨by omega, by omega⟩ ?_
      refine wp_storeEl (i := ti3) enI hop (j := j) (by simp; omega) (qv) rfl ?_
      intro h4 hop4 hc4 _ _
      have hset := set_mid (q.take j) 0 (qv) (m - 1)
      rw [hqjl, ← hqtk] at hset
      rw [hset] at hop4
      have hor4 := hor.chg hc4 hne
      refine wp_new ?_
      intro b5 h5 hN5
      refine wp_append layOk (t := 306) rfl rfl rfl (i := ti310) enRest rfl rfl rfl (hor4.ext (hN5.chg _)) (M := []) (l' := [⟨j, rv⟩]) (.inr ⟨b5, 0, _, rfl, by simp, hN5.here, Nat.le_refl _, Nat.le_refl _, rfl⟩) (by rw [rests_len, List.length_take]; simp; omega) (by simp) ?_
      intro h6 a6 cap6 blk6 ho6 hc6 hb6
      rw [← hrtk] at ho6
      have hf4 : Fresh h1 blk9 := hf9
      have hsz : h1.size ≤ h5.size := Nat.le_trans hc2.size (Nat.le_trans hc4.size (hN5.chg []).size)
      have hf6 : Fresh h1 blk6 := hf9.step hsz hb6
      refine wp_done ⟨(m - 1), by omega, j + 1, .int .i64 j, .int .i64 l[j], .int .i64 (qv), .int .i64 (rv), a6, cap6, blk6, ?_, by omega, ?_, ho6, hf6, ?_⟩
      · refine congr (congr (congrArg (fun z z' z'' => [Value.int .i64 z, Value.int .i64 z', .slice a6 z'' cap6, .int .i64 j, .int .i64 l[j], .int .i64 (qv), .int .i64 (rv)]) (by rw [w64 (by omega) (by omega)]; omega)) ?_) (congrArg List.length hrtk.symm)
        rw [hqs, w64 (by omega) (by omega)]
        omega
      · refine (hop4.ext (hN5.chg _)).chg hc6 ?_
        intro g hg hm
        cases hg
        exact hne bp (by simpa using hm) (by simp)
      · refine ((hc2.trans hc4).trans ((hN5.chg []).mono (by simp))).fresh hc6 ?_
        intro k hk
        exact .inr (hf9 k (by simpa using hk))
    · have hj' : ¬ ((j : Int) < (l.length : Int)) := of_decide_eq_false h3
      clear h3
      have hj : j = l.length := by omega
      have hm0 : m = 0 := by omega
      have el : l.take j = l := List.take_of_length_le (by omega)
      have eq : q.take j = q := List.take_of_length_le (by omega)
      have hop' : IntsOwn h2 (some ⟨bp, 0, none⟩) l.length q (some bp) := by rw [eq, hm0] at hop; simpa using hop
      obtain ⟨ys, hys⟩ : ∃ ys, ys = sortR (rests t (sumI l) 0 l) := ⟨_, rfl⟩
      have hyl : ys.length = l.length := by rw [hys, (sortR_perm _).length_eq, rests_len]
      have hqb : ∀ y, y ∈ q → 0 ≤ y ∧ y ≤ t := by
        intro y hy
        refine ⟨hq0 y hy, ?_⟩
        rw [hq] at hy
        obtain ⟨w, hwm, rfl⟩ := List.mem_map.1 hy
        have h1 := mem_le_sumI l w (fun x hx => (hw x hx).1) hwm
        exact Int.ediv_le_of_le_mul hsum (Int.mul_le_mul_of_nonneg_left h1 ht0)
      have hzl : (t - sumI (q.take j)).toNat ≤ l.length := by rw [eq]; omega
      have hz0 : 0 ≤ t - sumI (q.take j) := by rw [eq]; omega
      have hfin : apportion t l = (ys.take (t - sumI (q.take j)).toNat).foldl bump q := by rw [eq, hys, apportion, ← hq]
      have hsort := sortStable_c (c := c) a9 cap9 blk9 _ h2 hor (by rw [rests_len, el]; exact hlen0) (by rw [rests_len, el]; exact h20) (rests_at _ _ _ _)
      have hat : ∀ k (hk : k < ys.length), 0 ≤ (ys[k]).at_ ∧ (ys[k]).at_ < l.length := by
        intro k hk
        have hm : ys[k] ∈ rests t (sumI l) 0 l := (sortR_perm _).mem_iff.1 (by rw [← hys]; exact List.getElem_mem hk)
        have := rests_mem _ _ _ _ _ hm
        omega
      refine wp_done ?_
      show X.wp _ _ _ _ _ _ _
      refine wp_call hsort ?_
      rintro _ h3 ⟨ys', hp', hs', hoy, hc3⟩
      have hyy : ys' = ys := by
        rw [hys]
        rw [el] at hp'
        exact sorted_uniq _ _ (hp'.trans (sortR_perm _).symm) hs' (sortR_sorted _ ((rests_at _ _ _ _).imp fun h => by omega))
      subst hyy
      have hcap : l.length ≤ cap9 := by
        rcases hoy with ⟨_, rfl, h9, _⟩ | ⟨_, _, _, _, _, h4, _⟩
        · rw [h9] at hyl; simp at hyl; omega
        · omega
      obtain ⟨b9, rfl, rfl⟩ := hoy.ptr (i := ti310) (j := 0) (by omega)
      refine wp_chk ⟨by omega, by omega⟩ ?_
      refine wp_loopG layOk [67, 16] 68 78 rfl (fun m vals h' => ∃ (k : Nat) (u : Value), vals = [.int .i64 k, u] ∧ k + m = (t - sumI (q.take j)).toNat ∧ IntsOwn h' (some ⟨bp, 0, none⟩) l.length ((ys'.take k).foldl bump q) (some bp) ∧
        RestsOwn h' (some ⟨b9, 0, none⟩) cap9 ys' (some b9) ∧ Chg [bp] h3 h') (t - sumI (q.take j)).toNat ⟨0, ρ0 16, rfl, by omega, ?_, hoy, Chg.refl _ _⟩ ?_
      · exact hop'.chg hc3 (by intro g hg hm; cases hg; exact hne bp (by simpa using (List.mem_singleton.1 hm).symm) (by simp))
      rintro m g vals h4 - ⟨k, u, rfl, hm, hop4, hoy4, hc4⟩
      refine wp_br (fun h5 => ?_) (fun h5 => ?_)
      · have hk0 : (k : Int) < ((t - sumI (q.take j)).toNat : Int) := of_decide_eq_true h5
        have hk : k < (t - sumI (q.take j)).toNat := by omega
        have hky : k < ys'.length := by omega
        have hke := List.getElem?_eq_getElem hky
        have hatk := hat k hky
        have hbl : ((ys'.take k).foldl bump q).length = l.length := by rw [foldl_bump_len, hql]
        have htk : ys'.take (k + 1) = ys'.take k ++ [ys'[k]] := by rw [List.take_add_one, hke]; rfl
        have hbump : (ys'.take (k + 1)).foldl bump q = bump ((ys'.take k).foldl bump q) ys'[k] := by rw [htk, foldl_bump_append]
        have hbb := foldl_bump_bd (ys'.take k) t q hqb
        have hkl : (ys'.take k).length ≤ k := List.length_take_le _ _
        refine vary ((ys'.take k).foldl bump q) fun r hr => ?_
        refine vary ys'[k] fun x hx => ?_
        rw [← hr] at hop4 hbl hbb hbump
        rw [← hx] at hatk hke hbump
        have hxi : x.at_.toNat < r.length := by omega
        have hxz : x.at_ = (x.at_.toNat : Int) := by omega
        have hre := List.getElem?_eq_getElem hxi
        have hrb := hbb _ (List.getElem_mem hxi)
        refine wp_chk ⟨by omega, by omega⟩ ?_
        refine wp_load (hoy4.ld1 (i := ti310) enRest hke) ?_
        refine wp_new ?_
        intro bx h5 hN5
        refine wp_store hN5.here (by rfl) ?_
        intro h6 hU6
        have hc6 := hU6.chgGe (hN5.chg []) hN5.le
        refine wp_load (ld_of hU6.here rfl) ?_
        refine wp_chk ⟨by omega, by omega⟩ ?_
        refine wp_load (Ld.at hxz ((hop4.ext hc6).ld1 (i := ti3) enI hre)) ?_
        refine wp_chk ⟨by omega, by omega⟩ ?_
        refine wp_storeElZ (i := ti3) enI (hop4.ext hc6) x.at_.toNat hxz hxi (IntKind.i64.wrap (r[x.at_.toNat] + 1)) rfl ?_
        intro h7 ho7 hc7 _ _
        have hbr : (ys'.take (k + 1)).foldl bump q = r.set x.at_.toNat (IntKind.i64.wrap (r[x.at_.toNat] + 1)) := by
          rw [hbump, bump, List.getD_eq_getElem?_getD, hre, w64 (by omega) (by omega)]
          rfl
        rw [← hbr] at ho7
        refine wp_done ⟨m - 1, by omega, k + 1, .pointer (some ⟨bx, 0, none⟩), ?_, by omega, ho7, ?_, ?_⟩
        · exact congrArg (fun z => [Value.int .i64 z, Value.pointer (some ⟨bx, 0, none⟩)]) (by rw [w64 (by omega) (by omega)]; omega)
        · exact (hoy4.ext hc6).chg hc7 (by intro g hg hm; cases hg; exact hne b9 rfl hm)
        · exact (hc4.trans (hc6.mono (by simp))).trans hc7
      · have hk' : ¬ ((k : Int) < ((t - sumI (q.take j)).toNat : Int)) := of_decide_eq_false h5
        have hkk : k = (t - sumI (q.take j)).toNat := by omega
        have hop5 : IntsOwn h4 (some ⟨bp, 0, none⟩) l.length (apportion t l) (some bp) := by rw [hfin, ← hkk]; exact hop4
        have hal : (apportion t l).length = l.length := by rw [hfin, foldl_bump_len, hql]
        have hcc : Chg [] h h4 := ((hc02.freshO hc3 (hf9.back (hN1.chg []).size)).fresh hc4 (by intro m hm; rcases List.mem_singleton.1 hm with rfl; exact .inr hN1.le))
        refine wp_done ?_
        show X.wp _ _ _ _ _ _ _
        refine wp_done ⟨rfl, some ⟨bp, 0, none⟩, l.length, some bp, ?_, hop5, hcc, .new hN1⟩
        rw [hal]
        rfl
end Go.Xe
