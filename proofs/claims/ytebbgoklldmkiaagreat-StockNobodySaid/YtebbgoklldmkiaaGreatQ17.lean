/- Lemmas on the way: Parts: those without grams are taken out. slices.Clone. stock.portion, stock.less. -/
import Derived.Test.YtebbgoklldmkiaaGreatQ12
import Derived.Test.YtebbgoklldmkiaaGreatQ13
import Derived.Test.YtebbgoklldmkiaaGreatQ16
namespace Go.Xe
open Go Go.Proofs
set_option maxRecDepth 20000
variable {c : World}
def vPart (p : PartR) : Value := .agg #[.int .i64 p.clip, .int .i64 p.grams]
def solidL (l : List PartR) : List PartR := l.filter fun p => !(p.grams == 0)

theorem zero_c (p : PartR) (h : Hp) : Call c Tryz.prog 209 #[vPart p] h fun v h' => v = .bool (p.grams == 0) ∧ Chg [] h h' := by
  refine call_of layOk 6 Tryz.func209 Tryz.ntmps209 rfl rfl rfl rfl ?_
  refine wp_new ?_
  intro b h' hN
  refine wp_load (ld_of hN.here rfl) ?_
  exact wp_done ⟨rfl, rfl, hN.chg []⟩

theorem indexZero_c (M : List Nat) (l : List PartR) (a : Option Addr) (cap : Nat) (h : Hp) (hs : PartsAt M h a cap l) (hz : l.length < 900000) :
    Call c Tryz.prog 240 #[.slice a l.length cap, .func (.func 209) #[] #[]] h fun v h' => ∃ r : Int, v = .int .i64 r ∧ Chg [] h h' ∧
      ((r = -1 ∧ solidL l = l) ∨ ∃ (j : Nat), r = j ∧ j < l.length ∧ solidL (l.take j) = l.take j ∧ solidL (l.take (j + 1)) = l.take j) := by
  refine call_of layOk 19 Tryz.func240 Tryz.ntmps240 rfl rfl rfl rfl ?_
  refine wp_loopG layOk [8, 4, 5] 9 18 rfl (fun m vals h' => ∃ (j : Nat) (u v : Value), vals = [.int .i64 j, u, v] ∧ Chg [] h h' ∧ j + m = l.length ∧ solidL (l.take j) = l.take j) l.length ⟨0, _, _, rfl, Chg.refl _ _, by omega, rfl⟩ ?_
  rintro m g vals h' - ⟨j, u, v, rfl, hc, hm, hno⟩
  refine wp_br (fun h1 => ?_) (fun h1 => ?_)
  · have hj : j < l.length := by simpa using h1
    have hje := List.getElem?_eq_getElem hj
    obtain ⟨b, o, rfl⟩ := hs.ptr (i := ti129) hj
    refine wp_chk ⟨by omega, by omega⟩ ?_
    refine wp_load ((hs.ext hc).ld1 (i := ti129) enPart hje) ?_
    refine wp_call (zero_c l[j] h') ?_
    rintro _ h2 ⟨rfl, hc2⟩
    have htk : l.take (j + 1) = l.take j ++ [l[j]] := by rw [List.take_add_one, hje]; rfl
    refine wp_br (fun h2 => ?_) (fun h2 => ?_)
    · refine wp_done ?_
      show X.wp _ _ _ _ _ _ _
      refine wp_done ⟨rfl, _, rfl, hc.trans hc2, .inr ⟨j, rfl, hj, hno, ?_⟩⟩
      have h2' : (l[j].grams == 0) = true := h2
      rw [htk, solidL, List.filter_append]
      simp only [List.filter_cons, h2', List.filter_nil]
      exact (List.append_nil _).trans hno
    · have h2' : (l[j].grams == 0) = false := h2
      refine wp_done ⟨m - 1, by omega, j + 1, u, .int .i64 j, ?_, hc.trans hc2, by omega, ?_⟩
      · exact congrArg (fun z => [Value.int .i64 z, u, Value.int .i64 j]) (by rw [w64 (by omega) (by omega)]; omega)
      · rw [htk, solidL, List.filter_append]
        simp only [List.filter_cons, h2', List.filter_nil]
        exact congrArg (· ++ [l[j]]) hno
  · have hj : ¬ j < l.length := by simpa using h1
    refine wp_done ?_
    show X.wp _ _ _ _ _ _ _
    refine wp_done ⟨rfl, _, rfl, hc, .inl ⟨rfl, ?_⟩⟩
    rw [List.take_of_length_le (by omega)] at hno
    exact hno

theorem solidL_len (l : List PartR) : (solidL l).length ≤ l.length := List.length_filter_le _ _

theorem deleteZero_c (l : List PartR) (a : Option Addr) (cap : Nat) (blk : Option Nat) (h : Hp) (hs : PartsOwn h a cap l blk) (hz : l.length < 900000) :
    Call c Tryz.prog 208 #[.slice a l.length cap, .func (.func 209) #[] #[]] h fun v h' => v = .slice a (solidL l).length cap ∧ PartsOwn h' a cap (solidL l) blk ∧ Chg blk.toList h h' := by
  refine call_of layOk 42 Tryz.func208 Tryz.ntmps208 rfl rfl rfl rfl ?_
  refine wp_call (indexZero_c [] l a cap h (hs.sl (by simp)) hz) ?_
  rintro _ h1 ⟨r, rfl, hc1, hr⟩
  rcases hr with ⟨rfl, hr⟩ | ⟨j, rfl, hj, hr1, hr2⟩
  · refine wp_brT rfl (wp_done ⟨rfl, ?_, ?_, hc1.mono (by simp)⟩)
    · rw [hr]; rfl
    · rw [hr]; exact hs.ext hc1
  · obtain ⟨b, rfl, rfl⟩ := hs.ptr (i := ti129) hj
    refine wp_brF (by simp) ?_
    refine wp_loopG layOk [6, 5, 7] 16 35 rfl (fun m vals h' => ∃ (i j : Nat) (u : Value) (L : List PartR), vals = [.int .i64 j, .int .i64 i, u] ∧ Chg [b] h h' ∧ j + m = l.length ∧ i < j ∧ L.length = l.length ∧
      L.take i = solidL (l.take j) ∧ L.drop j = l.drop j ∧ PartsOwn h' (some ⟨b, 0, none⟩) cap L (some b)) (l.length - (j + 1)) ⟨j, j + 1, undef, l, ?_, hc1.mono (by simp), by omega, by omega, rfl, hr2.symm, rfl, hs.ext hc1⟩ ?_
    · exact congrArg (fun z => [Value.int .i64 z, Value.int .i64 j, undef]) (by rw [w64 (by omega) (by omega)]; omega)
    · rintro m g vals h' - ⟨i, j, u, L, rfl, hc, hm, hij, hL, hti, hdr, ho⟩
      refine wp_br (fun h1 => ?_) (fun h1 => ?_)
      · have hj : j < l.length := by simpa using h1
        have hje : L[j]? = some l[j] := by
          have := congrArg (fun z => z[0]?) hdr
          simpa [List.getElem?_drop, hj] using this
        refine wp_chk ⟨by omega, by omega⟩ ?_
        refine wp_load (ho.ld1 (i := ti129) enPart hje) ?_
        refine wp_new ?_
        intro bv h2 hN2
        refine wp_store hN2.here (by rfl) ?_
        intro h3 hU3
        have hc3 := hU3.chgGe (hN2.chg []) hN2.le
        refine wp_load (ld_of hU3.here rfl) ?_
        refine wp_call (zero_c l[j] h3) ?_
        rintro _ h4 ⟨rfl, hc4⟩
        have htk : l.take (j + 1) = l.take j ++ [l[j]] := by rw [List.take_add_one, List.getElem?_eq_getElem hj]; rfl
        refine wp_br (fun h2 => ?_) (fun h2 => ?_)
        · have h2' : (l[j].grams == 0) = false := by simpa using h2
          refine wp_load (ld_of (hc4.of hU3.here (by simp)) rfl) ?_
          refine wp_chk ⟨by omega, by omega⟩ ?_
          refine wp_storeEl (i := ti129) enPart ((ho.ext hc3).ext hc4) (j := i) (by omega) l[j] rfl ?_
          intro h5 ho5 hc5 _ _
          refine wp_done ⟨m - 1, by omega, i + 1, j + 1, .pointer (some ⟨bv, 0, none⟩), L.set i l[j], ?_, ?_, by omega, by omega, by simpa using hL, ?_, ?_, ho5⟩
          · exact congr (congrArg (fun z z' => [Value.int .i64 z, Value.int .i64 z', Value.pointer (some ⟨bv, 0, none⟩)]) (by rw [w64 (by omega) (by omega)]; omega)) (by rw [w64 (by omega) (by omega)]; omega)
          · exact (hc.trans ((hc3.trans hc4).mono (by simp))).trans hc5
          · rw [htk, solidL, List.filter_append, ← solidL, ← hti]
            simp only [List.filter_cons, h2', List.filter_nil]
            rw [List.take_add_one, List.take_set_of_le (Nat.le_refl _), List.getElem?_set_self (by omega)]
            rfl
          · rw [List.drop_set_of_lt (by omega), ← List.drop_drop, hdr, List.drop_drop]
        · have h2' : (l[j].grams == 0) = true := by simpa using h2
          refine wp_done ⟨m - 1, by omega, i, j + 1, .pointer (some ⟨bv, 0, none⟩), L, ?_, ?_, by omega, by omega, hL, ?_, ?_, (ho.ext hc3).ext hc4⟩
          · exact congrArg (fun z => [Value.int .i64 z, Value.int .i64 i, Value.pointer (some ⟨bv, 0, none⟩)]) (by rw [w64 (by omega) (by omega)]; omega)
          · exact hc.trans ((hc3.trans hc4).mono (by simp))
          · rw [htk, solidL, List.filter_append, ← solidL, ← hti]
            simp only [List.filter_cons, h2', List.filter_nil]
            simp
          · rw [← List.drop_drop, hdr, List.drop_drop]
      · have hj : ¬ j < l.length := by simpa using h1
        have hjn : j = l.length := by omega
        subst hjn
        rw [List.take_length] at hti
        have hcap := ho
        have hlen : (solidL l).length = i := by rw [← hti, List.length_take]; omega
        refine wp_done ?_
        show X.wp _ _ _ _ _ _ _
        refine wp_chk ⟨by omega, by omega⟩ ?_
        refine wp_clear layOk (t := 40) (l := L) rfl rfl rfl (i := ti129) enPart rfl rfl (j := i) (by omega) (by rw [hL]; rfl) ho rfl ?_
        intro h2 ho2 hc2
        have hic : i ≤ cap := by
          rcases ho with ⟨h0, _⟩ | ⟨_, _, _, _, _, h4, _⟩
          · cases h0
          · omega
        refine wp_chk ⟨by omega, by omega⟩ ?_
        refine wp_done ⟨rfl, ?_, ?_, hc.trans hc2⟩
        · rw [hlen]; rfl
        · rw [← hti]; exact ho2

theorem solid_c (l : List PartR) (a : Option Addr) (cap : Nat) (blk : Option Nat) (h : Hp) (hs : PartsOwn h a cap l blk) (hz : l.length < 900000) :
    Call c Tryz.prog 162 #[.slice a l.length cap] h fun v h' => v = .slice a (solidL l).length cap ∧ PartsOwn h' a cap (solidL l) blk ∧ Chg blk.toList h h' := by
  refine call_of layOk 5 Tryz.func162 Tryz.ntmps162 rfl rfl rfl rfl ?_
  refine wp_call (deleteZero_c l a cap blk h hs hz) ?_
  rintro _ h1 ⟨rfl, ho, hc⟩
  exact wp_done ⟨rfl, rfl, ho, hc⟩
end Go.Xe
namespace Go.Xe
open Go Go.Proofs
set_option maxRecDepth 20000
variable {c : World}
theorem clone66_c (M : List Nat) (l : List Int) (a : Option Addr) (cap : Nat) (h : Hp) (hs : SlAt 3 1 elInt M h a cap l) (hz : l.length < 900000) :
    Call c Tryz.prog 66 #[.slice a l.length cap] h fun v h' => ∃ a' cap' blk, v = .slice a' l.length cap' ∧ OwnAt 3 1 elInt h' a' cap' l blk ∧ Chg [] h h' ∧ Fresh h blk := by
  refine call_of layOk 8 Tryz.func66 Tryz.ntmps66 rfl rfl rfl rfl ?_
  rcases id hs with ⟨rfl, rfl, rfl⟩ | ⟨b, o, cs, rfl, hr⟩
  · exact wp_brT rfl (wp_done ⟨rfl, none, 0, none, rfl, OwnAt.nil, Chg.refl _ _, .none⟩)
  · refine wp_brF rfl ?_
    refine wp_new ?_
    intro b' h1 hN
    refine wp_append (l := ([] : List Int)) (cap := 0) layOk (t := 34) rfl rfl rfl enI rfl rfl rfl (.inr ⟨b', _, rfl, rfl, hN.here, Nat.le_refl _, Nat.zero_le _, rfl, rfl⟩) (hs.ext (hN.chg _)) (by simpa using by omega) (by simp) ?_
    intro h2 a2 cap2 blk2 ho hc hb
    exact wp_done ⟨rfl, a2, cap2, blk2, rfl, ho, (hN.chg []).freshO hc (.new hN), (Fresh.new hN).step (hN.chg []).size hb⟩
theorem clone104_c (M : List Nat) (l : List PartR) (a : Option Addr) (cap : Nat) (h : Hp) (hs : SlAt 129 2 elPart M h a cap l) (hz : l.length < 900000) :
    Call c Tryz.prog 104 #[.slice a l.length cap] h fun v h' => ∃ a' cap' blk, v = .slice a' l.length cap' ∧ OwnAt 129 2 elPart h' a' cap' l blk ∧ Chg [] h h' ∧ Fresh h blk := by
  refine call_of layOk 8 Tryz.func104 Tryz.ntmps104 rfl rfl rfl rfl ?_
  rcases id hs with ⟨rfl, rfl, rfl⟩ | ⟨b, o, cs, rfl, hr⟩
  · exact wp_brT rfl (wp_done ⟨rfl, none, 0, none, rfl, OwnAt.nil, Chg.refl _ _, .none⟩)
  · refine wp_brF rfl ?_
    refine wp_new ?_
    intro b' h1 hN
    refine wp_append (l := ([] : List PartR)) (cap := 0) layOk (t := 40) rfl rfl rfl enPart rfl rfl rfl (.inr ⟨b', _, rfl, rfl, hN.here, Nat.le_refl _, Nat.zero_le _, rfl, rfl⟩) (hs.ext (hN.chg _)) (by simpa using by omega) (by simp) ?_
    intro h2 a2 cap2 blk2 ho hc hb
    exact wp_done ⟨rfl, a2, cap2, blk2, rfl, ho, (hN.chg []).freshO hc (.new hN), (Fresh.new hN).step (hN.chg []).size hb⟩
end Go.Xe
namespace Go.Xe
open Go Go.Proofs
set_option maxRecDepth 20000
variable {c : World}
theorem apportion_len (t : Int) (l : List Int) : (apportion t l).length = l.length := by unfold apportion; rw [foldl_bump_len, List.length_map]
def putG : List PartR → List Int → List PartR
  | p :: l, g :: gs => ⟨p.clip, g⟩ :: putG l gs
  | _, _ => []
theorem putG_len : ∀ (l : List PartR) (gs : List Int), gs.length = l.length → (putG l gs).length = l.length
  | [], _, _ => by simp [putG]
  | p :: l, [], h => by simp at h
  | p :: l, g :: gs, h => by simp [putG, putG_len l gs (by simpa using h)]
theorem putG_get : ∀ (l : List PartR) (gs : List Int) (j : Nat) (p : PartR) (g : Int), l[j]? = some p → gs[j]? = some g → (putG l gs)[j]? = some ⟨p.clip, g⟩
  | [], _, _, _, _, h, _ => by simp at h
  | p :: l, [], _, _, _, _, h => by simp at h
  | p :: l, g :: gs, 0, _, _, h1, h2 => by
    simp only [List.getElem?_cons_zero, Option.some.injEq] at h1 h2
    subst h1; subst h2; rfl
  | p :: l, g :: gs, j + 1, _, _, h1, h2 => by
    simp only [List.getElem?_cons_succ] at h1 h2
    simp only [putG, List.getElem?_cons_succ]
    exact putG_get l gs j _ _ h1 h2
def portionL (t : Int) (l : List PartR) : List PartR := putG l (apportion t (l.map (·.grams)))
theorem step_list {α : Type} (A B : List α) (j : Nat) (x : α) (hA : A[j]? = some x) (hjB : j < B.length) (hAl : A.length = B.length) : (A.take j ++ B.drop j).set j x = A.take (j + 1) ++ B.drop (j + 1) := by
  have hjl : (A.take j).length = j := by rw [List.length_take]; omega
  rw [List.take_add_one, hA, List.drop_eq_getElem_cons hjB]
  rw [List.set_append_right _ _ (by omega), hjl, Nat.sub_self, List.set_cons_zero]
  simp

theorem portion_c (M : List Nat) (t : Int) (l : List PartR) (a : Option Addr) (cap : Nat) (h : Hp) (hs : PartsAt M h a cap l) (h20 : l.length < 20) (ht0 : 0 ≤ t) (ht : t ≤ 1073741824) (hw : ∀ p, p ∈ l → 0 ≤ p.grams ∧ p.grams ≤ 1073741824) (hsum : 0 < sumI (l.map (·.grams))) :
    Call c Tryz.prog 159 #[.int .i64 t, .slice a l.length cap] h fun v h' => ∃ a' cap' blk, v = .slice a' (portionL t l).length cap' ∧ PartsOwn h' a' cap' (portionL t l) blk ∧ Chg [] h h' ∧ Fresh h blk := by
  have hpl : (portionL t l).length = l.length := putG_len _ _ (by rw [apportion_len, List.length_map])
  refine call_of layOk 47 Tryz.func159 Tryz.ntmps159 rfl rfl rfl rfl ?_
  refine wp_loopK layOk [14, 5, 7] 15 23 rfl [0, 1, 12, 13] [.int .i64 t, .slice a l.length cap, .slice a l.length cap, .int .i64 l.length] rfl [] rfl (fun m vals h' => ∃ (j : Nat) (u : Value) (a5 : Option Addr) (cap5 : Nat) (blk5 : Option Nat),
    vals = [.int .i64 j, .slice a5 ((l.take j).map (·.grams)).length cap5, u] ∧ j + m = l.length ∧ IntsOwn h' a5 cap5 ((l.take j).map (·.grams)) blk5 ∧ Fresh h blk5 ∧ Chg [] h h') l.length ⟨0, undef, none, 0, none, rfl, by omega, OwnAt.nil, .none, Chg.refl _ _⟩ ?_
  rintro ρ0 m g vals h1 - ⟨j, u, a5, cap5, blk5, rfl, hm, ho, hf, hc⟩
  refine wp_br (fun h3 => ?_) (fun h3 => ?_)
  · have hj' : (j : Int) < (l.length : Int) := of_decide_eq_true h3
    clear h3
    have hj : j < l.length := by omega
    have hje := List.getElem?_eq_getElem hj
    have htk : (l.take (j + 1)).map (·.grams) = (l.take j).map (·.grams) ++ [l[j].grams] := by rw [List.take_add_one, hje, List.map_append]; rfl
    obtain ⟨b, o, rfl⟩ := hs.ptr (i := ti129) hj
    refine wp_chk ⟨by omega, by omega⟩ ?_
    refine wp_load ((hs.ext hc).ld1 (i := ti129) enPart hje) ?_
    refine wp_new ?_
    intro bv h2 hN2
    refine wp_store hN2.here (by rfl) ?_
    intro h3 hU3
    have hc3 := hU3.chgGe (hN2.chg []) hN2.le
    refine wp_load (ld_of hU3.here rfl) ?_
    refine wp_new ?_
    intro b4 h4 hN4
    have ho4 := (ho.ext hc3).ext (hN4.chg _)
    refine wp_append layOk (t := 34) rfl rfl rfl (i := ti3) enI rfl rfl rfl ho4 (M := []) (l' := [l[j].grams]) (.inr ⟨b4, 0, _, rfl, by simp, hN4.here, Nat.le_refl _, Nat.le_refl _, rfl⟩) (by rw [List.length_map, List.length_take]; simp; omega) (by simp) ?_
    intro h6 a6 cap6 blk6 ho6 hc6 hb6
    rw [← htk] at ho6
    have hcc : Chg [] h h4 := hc.trans (hc3.trans (hN4.chg _))
    refine wp_done ⟨m - 1, by omega, j + 1, .pointer (some ⟨bv, 0, none⟩), a6, cap6, blk6, ?_, by omega, ho6, hf.step hcc.size hb6, hcc.freshO hc6 hf⟩
    exact congr (congrArg (fun z z' => [Value.int .i64 z, .slice a6 z' cap6, .pointer (some ⟨bv, 0, none⟩)]) (by rw [w64 (by omega) (by omega)]; omega)) (congrArg List.length htk.symm)
  · have hj' : ¬ ((j : Int) < (l.length : Int)) := of_decide_eq_false h3
    clear h3
    have el : l.take j = l := List.take_of_length_le (by omega)
    rw [el] at ho
    have hap := apportion_c (c := c) [] t (l.map (·.grams)) a5 cap5 h1 (ho.sl (by simp)) (by rw [List.length_map]; exact h20) ht0 ht (by
      intro w hwm
      obtain ⟨p, hp, rfl⟩ := List.mem_map.1 hwm
      exact hw p hp) hsum
    rw [← el] at hap
    refine wp_done ?_
    show X.wp _ _ _ _ _ _ _
    refine wp_call hap ?_
    rintro _ h2 ⟨a8, cap8, blk8, rfl, ho8, hc8, hf8⟩
    rw [el] at ho8
    have hcl := clone104_c (c := c) M l a cap h2 ((hs.ext hc).ext hc8) (by omega)
    refine wp_call hcl ?_
    rintro _ h3 ⟨a10, cap10, blk10, rfl, ho10, hc10, hf10⟩
    have hne : ∀ g, blk8 = some g → ∀ g', blk10 = some g' → g' ≠ g := by
      intro g hg g' hg' e
      have h1 := ho8.lt g hg
      have h2 := hf10 g' hg'
      omega
    refine wp_loopK layOk [34, 11] 35 45 rfl [8, 10, 32, 33] [.slice a8 (apportion t ((l.take j).map (·.grams))).length cap8, .slice a10 l.length cap10, .slice a10 l.length cap10, .int .i64 l.length] rfl [] rfl (fun m vals h' => ∃ (k : Nat) (u : Value),
      vals = [.int .i64 k, u] ∧ k + m = l.length ∧ PartsOwn h' a10 cap10 ((portionL t l).take k ++ l.drop k) blk10 ∧ Chg blk10.toList h3 h') l.length ⟨0, ρ0 11, rfl, by omega, by simpa using ho10, Chg.refl _ _⟩ ?_
    rintro ρ1 m g1 vals h4 - ⟨k, u1, rfl, hm, ho4, hc4⟩
    refine wp_br (fun h5 => ?_) (fun h5 => ?_)
    · have hk' : (k : Int) < (l.length : Int) := of_decide_eq_true h5
      clear h5
      have hk : k < l.length := by omega
      have hke := List.getElem?_eq_getElem hk
      have hal : (apportion t ((l.take j).map (·.grams))).length = l.length := by rw [apportion_len, el, List.length_map]
      have hal2 : k < (apportion t (l.map (·.grams))).length := by rw [apportion_len, List.length_map]; exact hk
      have hae := List.getElem?_eq_getElem hal2
      refine vary (apportion t (l.map (·.grams)))[k] fun gr hgr => ?_
      rw [← hgr] at hae
      have hpe : (portionL t l)[k]? = some ⟨l[k].clip, gr⟩ := putG_get _ _ _ _ _ hke hae
      have hne8 : ∀ g, blk8 = some g → g ∉ blk10.toList := by
        intro g hg hm
        exact hne g hg g (by simpa using hm) rfl
      have ho8' := (ho8.ext hc10).chg hc4 hne8
      obtain ⟨b8, rfl, rfl⟩ := ho8.ptr (i := ti3) hal2
      obtain ⟨b10, rfl, rfl⟩ := ho10.ptr (i := ti129) hk
      have hcur : ((portionL t l).take k ++ l.drop k)[k]? = some l[k] := by
        rw [List.getElem?_append_right (by rw [List.length_take]; omega), List.length_take, Nat.min_eq_left (by omega), Nat.sub_self, List.getElem?_drop]
        exact hke
      refine wp_chk ⟨by omega, by omega⟩ ?_
      refine wp_load (ho8'.ld1 (i := ti3) enI hae) ?_
      refine wp_chk ⟨by omega, by omega⟩ ?_
      refine wp_storeFld (i := ti129) enPart rfl ho4 hcur ⟨l[k].clip, gr⟩ (k := 1) rfl rfl (by decide) ?_
      intro h6 ho6 hc6 _ _
      rw [step_list _ _ _ _ hpe hk hpl] at ho6
      refine wp_done ⟨m - 1, by omega, k + 1, .int .i64 k, ?_, by omega, ho6, hc4.trans hc6⟩
      exact congrArg (fun z => [Value.int .i64 z, .int .i64 k]) (by rw [w64 (by omega) (by omega)]; omega)
    · have hk' : ¬ ((k : Int) < (l.length : Int)) := of_decide_eq_false h5
      clear h5
      rw [List.take_of_length_le (by omega), List.drop_eq_nil_of_le (by omega), List.append_nil] at ho4
      have hcc : Chg [] h h4 := ((hc.trans hc8).trans hc10).freshO hc4 (hf10.back (Nat.le_trans hc.size hc8.size))
      have hfr : Fresh h blk10 := hf10.back (Nat.le_trans hc.size hc8.size)
      refine wp_done ?_
      show X.wp _ _ _ _ _ _ _
      refine wp_done ⟨rfl, a10, cap10, blk10, ?_, ho4, hcc, hfr⟩
      rw [hpl]
      rfl
end Go.Xe
