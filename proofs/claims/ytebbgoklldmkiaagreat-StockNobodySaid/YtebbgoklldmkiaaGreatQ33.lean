/- several: some free bales of one kind, each named once. -/
import Derived.Test.YtebbgoklldmkiaaGreatQ32
namespace Go.Xe
open Go Go.Proofs
set_option maxRecDepth 20000
variable {c : World}
theorem SlAt.take {α : Type} {e sz : Nat} {enc : α → List Value} {M : List Nat} {h : Hp} {a : Option Addr} {cap : Nat} {l : List α} (henc : ∀ x, (enc x).length = sz) (y : SlAt e sz enc M h a cap l) (j : Nat) : SlAt e sz enc M h a cap (l.take j) := by
  rcases y with ⟨h1, h2, rfl⟩ | ⟨b, o, cs, h1, h2, h3, h4, h5, h6⟩
  · exact .inl ⟨h1, h2, by simp⟩
  · refine .inr ⟨b, o, cs, h1, h2, h3, Nat.le_trans (by rw [List.length_take]; exact Nat.min_le_right _ _) h4, h5, ?_⟩
    have e1 : l.flatMap enc = (l.take j).flatMap enc ++ (l.drop j).flatMap enc := by rw [← List.flatMap_append, List.take_append_drop]
    have hl := flat_len henc (l.take j)
    have hle : (l.take j).length * sz ≤ l.length * sz := Nat.mul_le_mul_right _ (by rw [List.length_take]; exact Nat.min_le_right _ _)
    rw [← Nat.min_eq_left hle, ← List.take_take, h6, e1, ← hl]
    exact List.take_left
/-- a field of several cells is read -/
theorem SlAt.ldA {α : Type} {e : Nat} {i : TI} {enc : α → List Value} {M : List Nat} {h : Hp} {cap : Nat} {l : List α} (hi : EncOk i enc) {tf : TI} (h1 : (match tf.desc with | .struct _ | .array _ _ => true | _ => Nat.beq tf.size 1) = true) (hp : 0 < tf.size) {b o : Nat}
    (y : SlAt e i.size enc M h (some ⟨b, o, none⟩) cap l) {j : Nat} {x : α} (hj : l[j]? = some x) {k : Nat} (hk : k + tf.size ≤ i.size) : Ld h b (o + j * i.size + k) tf (valOf tf (((enc x).drop k).take tf.size)) := by
  rcases y with ⟨h1, _⟩ | ⟨b', o', cs, h1', h2, h3, h4, h5, h6⟩
  · cases h1
  · injection h1' with h1'
    injection h1' with hbb hoo
    subst hbb; subst hoo
    refine ⟨cs, e, (0, 0), h3, rd_of (L := ((enc x).drop k).take tf.size) ?_ ?_ hp h1⟩
    · have hjl := (List.getElem?_eq_some_iff.1 hj).1
      have hf := flat_at hi.len l j x hj
      have h9 : (j + 1) * i.size ≤ l.length * i.size := Nat.mul_le_mul_right _ hjl
      rw [Nat.add_mul] at h9
      rw [← hf, ← h6]
      apply List.ext_getElem?
      intro t
      simp only [List.getElem?_take, List.getElem?_drop]
      by_cases ht : t < tf.size
      · rw [if_pos ht, if_pos ht, if_pos (by omega), if_pos (by omega)]
        congr 1
        omega
      · rw [if_neg ht, if_neg ht]
    · rw [List.length_take, List.length_drop, hi.len]
      omega
/-- a slice of other elements is written to -/
theorem SlAt.apart {α β : Type} {e sz e2 sz2 : Nat} {enc : α → List Value} {enc2 : β → List Value} {M : List Nat} {h h' : Hp} {a a2 : Option Addr} {cap cap2 : Nat} {l : List α} {l2 : List β} {blk : Option Nat}
    (x : Chg blk.toList h h') (ho : OwnAt e2 sz2 enc2 h a2 cap2 l2 blk) (he : e2 ≠ e) (y : SlAt e sz enc M h a cap l) : SlAt e sz enc M h' a cap l := by
  rcases y with y | ⟨b, o, cs, h1, h2, h3, h4⟩
  · exact .inl y
  · refine .inr ⟨b, o, cs, h1, h2, x.of h3 (fun hm => ?_), h4⟩
    rcases ho with ⟨_, _, _, rfl⟩ | ⟨g, cs2, _, rfl, g3, _⟩
    · simp at hm
    · have : b = g := by simpa using hm
      subst this
      rw [h3] at g3
      injection g3 with g3
      injection g3 with _ g4 _
      exact he g4.symm
def encBale (x : BaleR × BalP) : List Value := elBale x.1 x.2
theorem enBale : EncOk ti42 encBale := ⟨fun _ => rfl, by decide, rfl, fun x u hu => by
  simp only [encBale, elBale, List.mem_cons, List.not_mem_nil, or_false] at hu
  rcases hu with rfl | rfl | rfl | rfl | rfl | rfl | rfl | rfl | rfl | rfl <;> rfl, by decide⟩
abbrev BalesAtS (M : List Nat) (h : Hp) (a : Option Addr) (cap : Nat) (l : List (BaleR × BalP)) := SlAt 42 10 encBale M h a cap l
abbrev BalesOwn (h : Hp) (a : Option Addr) (cap : Nat) (l : List (BaleR × BalP)) (blk : Option Nat) := OwnAt 42 10 encBale h a cap l blk
def AllOk (M : List Nat) (h : Hp) (L : List (BaleR × BalP)) : Prop := ∀ x, x ∈ L → BalOk M h x.1 x.2
theorem AllOk.ext {M : List Nat} {h h' : Hp} {L : List (BaleR × BalP)} (x : Chg [] h h') (y : AllOk M h L) : AllOk M h' L := fun z hz => (y z hz).ext x
theorem sevGo_cons (bs : List (Int × BaleR)) (nos : List Int) (j : Nat) (no : Int) (hj : nos[j]? = some no) (out : List BaleR) : sevGo bs nos j (nos.drop j) out =
    (if (findF bs no [0]).1 = 7 then (7, []) else if (nos.take j).contains no = true then (2, []) else if (findF bs no [0]).1 ≠ 0 then ((findF bs no [0]).1, []) else sevGo bs nos (j + 1) (nos.drop (j + 1)) (out ++ [(findF bs no [0]).2])) := by
  have hl := (List.getElem?_eq_some_iff.1 hj)
  obtain ⟨hl, he⟩ := hl
  rw [List.drop_eq_getElem_cons hl, he]
  rfl
theorem sevGo_nil (bs : List (Int × BaleR)) (nos : List Int) (j : Nat) (hj : nos.length ≤ j) (out : List BaleR) : sevGo bs nos j (nos.drop j) out = (bif out.all fun b => kindB b.kind ((out.head?.getD zBaleR).kind) then (0, out) else (12, [])) := by
  rw [List.drop_eq_nil_of_le hj]
  rfl
theorem several_x (M Mn : List Nat) (sb : Nat) (p : StP) (σ : StateR) (nos : List Int) (a : Option Addr) (cap : Nat) (h : Hp) (y : SC M sb h p σ) (hn : IntsAt Mn h a cap nos) (hz : nos.length < 1000) :
    Call c Tryz.prog 163 #[.pointer (some ⟨sb, 0, none⟩), .slice a nos.length cap] h fun v h' => ∃ (L : List (BaleR × BalP)) (e : Int) (a' : Option Addr) (cap' : Nat) (blk' : Option Nat),
      v = .tuple #[.slice a' L.length cap', .int .i64 e] ∧ severalF σ.bales nos = (e, L.map (·.1)) ∧ BalesOwn h' a' cap' L blk' ∧ AllOk M h' L ∧ Chg [] h h' ∧ Fresh h blk' := by
  refine call_of layOk 61 Tryz.func163 Tryz.ntmps163 rfl rfl rfl rfl ?_
  refine wp_loopK layOk [15, 6, 7, 8, 9, 10, 4, 5] 16 45 rfl [0, 1, 13, 14] [.pointer (some ⟨sb, 0, none⟩), .slice a nos.length cap, .slice a nos.length cap, .int .i64 nos.length] rfl [] rfl
    (fun m vals h' => ∃ (j : Nat) (u7 u8 u9 u10 u4 u5 : Value) (a6 : Option Addr) (cap6 : Nat) (blk6 : Option Nat) (L : List (BaleR × BalP)), vals = [.int .i64 j, .slice a6 L.length cap6, u7, u8, u9, u10, u4, u5] ∧ j + m = nos.length ∧
      BalesOwn h' a6 cap6 L blk6 ∧ Fresh h blk6 ∧ Chg [] h h' ∧ AllOk M h' L ∧ L.length ≤ j ∧ severalF σ.bales nos = sevGo σ.bales nos j (nos.drop j) (L.map (·.1)))
    nos.length ⟨0, undef, undef, undef, undef, .slice none 0 0, .int .i64 0, none, 0, none, [], rfl, by omega, OwnAt.nil, .none, Chg.refl _ _, (fun _ h => by cases h), Nat.le_refl _, rfl⟩ ?_
  rintro ρ0 m g vals h1 - ⟨j, u7, u8, u9, u10, u4, u5, a6, cap6, blk6, L, rfl, hjm, ho6, hf6, hc1, hL, hLl, hsev⟩
  refine wp_br (fun g1 => ?_) (fun g1 => ?_)
  · have hj' : (j : Int) < (nos.length : Int) := of_decide_eq_true g1
    clear g1
    have hj : j < nos.length := by omega
    have hje := List.getElem?_eq_getElem hj
    revert hje
    generalize nos[j] = no
    intro hje
    rw [sevGo_cons _ _ _ _ hje] at hsev
    have hn1 := hn.ext hc1
    obtain ⟨b, o, hqa⟩ := hn1.ptr (i := ti3) hj
    rw [hqa] at hn1 ⊢
    have y1 := y.ext hc1
    refine wp_chk ⟨by omega, by omega⟩ ?_
    refine wp_load (hn1.ld1 (i := ti3) enI hje) ?_
    refine wp_new ?_
    intro bi h2 hN2
    have hfind := find_x (c := c) [] no [0] (some ⟨bi, 0, none⟩) 1 (y1.ext (hN2.chg [])) (.inr ⟨bi, 0, _, rfl, by simp, hN2.here, Nat.le_refl _, Nat.le_refl _, rfl⟩) (by simp)
    refine wp_call hfind ?_
    rintro _ h3 ⟨q, rfl, hq3, hc3⟩
    revert hsev hq3
    generalize findF σ.bales no [0] = f
    obtain ⟨e, r⟩ := f
    dsimp only
    intro hsev hq3
    refine wp_new ?_
    intro b6 h4 hN4
    refine wp_store hN4.here (by rfl) ?_
    intro h5 hU5
    have hc35 : Chg [] h3 h5 := hU5.chgGe (hN4.chg []) hN4.le
    have hc13 : Chg [] h1 h3 := (hN2.chg []).trans hc3
    have hc15 := hc13.trans hc35
    have hc05 := hc1.trans hc15
    refine wp_br (fun g2 => ?_) (fun g2 => ?_)
    · have d2 : (e == 7) = true := g2
      have d2' : e = 7 := by simpa using d2
      rw [if_pos d2'] at hsev
      have hfin : severalF σ.bales nos = (e, ([] : List (BaleR × BalP)).map (·.1)) := by rw [hsev, d2']; rfl
      refine wp_done ?_
      show X.wp _ _ _ _ _ _ _
      exact wp_done ⟨rfl, [], e, none, 0, none, rfl, hfin, OwnAt.nil, (fun _ h => by cases h), hc05, .none⟩
    · have d2 : (e == 7) = false := g2
      have d2' : ¬ e = 7 := by simpa using d2
      rw [if_neg d2'] at hsev
      refine wp_chk ⟨by omega, by
        rcases hn1 with ⟨h0, _⟩ | ⟨_, _, _, _, _, _, h4, _⟩
        · cases h0
        · omega⟩ ?_
      have hcon := contains_c (c := c) Mn (nos.take j) no (some ⟨b, o, none⟩) cap h5 ((SlAt.take (sz := 1) (enc := elInt) (fun _ => rfl) hn1 j).ext hc15) (by rw [List.length_take]; omega)
      rw [show (nos.take j).length = ((j : Int)).toNat from by rw [List.length_take]; omega] at hcon
      refine wp_call hcon ?_
      rintro _ h5 ⟨rfl, rfl⟩
      refine wp_br (fun g3 => ?_) (fun g3 => ?_)
      · have d3 : (nos.take j).contains no = true := g3
        rw [if_pos d3] at hsev
        refine wp_done ?_
        show X.wp _ _ _ _ _ _ _
        exact wp_done ⟨rfl, [], 2, none, 0, none, rfl, hsev, OwnAt.nil, (fun _ h => by cases h), hc05, .none⟩
      · have d3 : (nos.take j).contains no = false := g3
        rw [if_neg (by rw [d3]; simp)] at hsev
        refine wp_br (fun g4 => ?_) (fun g4 => ?_)
        · have d4 : (e != 0) = true := g4
          have d4' : e ≠ 0 := by simpa using d4
          rw [if_pos d4'] at hsev
          refine wp_done ?_
          show X.wp _ _ _ _ _ _ _
          exact wp_done ⟨rfl, [], e, none, 0, none, rfl, hsev, OwnAt.nil, (fun _ h => by cases h), hc05, .none⟩
        · have d4 : (e != 0) = false := g4
          have d4' : e = 0 := by simpa using d4
          rw [if_neg (by simpa using d4')] at hsev
          refine wp_load (v := vBale r q) (ld_of hU5.here rfl) ?_
          refine wp_new ?_
          intro b8 h8 hN8
          have ho8 := (ho6.ext hc15).ext (hN8.chg [])
          have hc18 : Chg [] h1 h8 := hc15.trans (hN8.chg [])
          refine wp_append layOk (t := 29) rfl rfl rfl (i := ti42) enBale rfl rfl rfl ho8 (M := []) (l' := [(r, q)]) (.inr ⟨b8, 0, _, rfl, by simp, hN8.here, Nat.le_refl _, Nat.le_refl _, rfl⟩) (by simp; omega) (by simp) ?_
          intro h9 a9 cap9 blk9 ho9 hc9 hb9
          have hcc := (hc1.trans hc18).freshO hc9 hf6
          have hc19 : Chg blk6.toList h1 h9 := (hc18.mono (by simp)).trans hc9
          refine wp_done ⟨m - 1, by omega, j + 1, .int .i64 j, .int .i64 no, .pointer (some ⟨b6, 0, none⟩), .int .i64 e, u4, u5, a9, cap9, blk9, L ++ [(r, q)], ?_, by omega, ho9, hf6.step (Nat.le_trans hc1.size hc18.size) hb9, hcc, ?_, by rw [List.length_append]; exact Nat.succ_le_succ hLl, ?_⟩
          · exact congrArg (fun z => [Value.int .i64 z, .slice a9 (L ++ [(r, q)]).length cap9, .int .i64 j, .int .i64 no, .pointer (some ⟨b6, 0, none⟩), .int .i64 e, u4, u5]) (by rw [w64 (by omega) (by omega)]; omega)
          · intro x hx
            have hx8 : BalOk M h8 x.1 x.2 := by
              rcases List.mem_append.1 hx with hx | hx
              · exact (hL x hx).ext hc18
              · rw [List.mem_singleton] at hx
                rw [hx]
                exact hq3.ext (hc35.trans (hN8.chg []))
            exact ⟨hx8.1.apart hc9 ho8 (by decide), hx8.2.apart hc9 ho8 (by decide)⟩
          · rw [List.map_append]; exact hsev
  · have hj' : ¬ ((j : Int) < (nos.length : Int)) := of_decide_eq_false g1
    clear g1
    rw [sevGo_nil _ _ _ (by omega)] at hsev
    refine wp_done ?_
    show X.wp _ _ _ _ _ _ _
    refine wp_loopK layOk [48, 12, 4, 5] 49 59 rfl [6, 46, 47] [.slice a6 L.length cap6, .slice a6 L.length cap6, .int .i64 L.length] rfl [] rfl
      (fun m vals h' => ∃ (k : Nat) (u12 u4 u5 : Value), vals = [.int .i64 k, u12, u4, u5] ∧ k + m = L.length ∧ Chg [] h1 h' ∧ ((L.map (·.1)).take k).all (fun b => kindB b.kind (((L.map (·.1)).head?.getD zBaleR).kind)) = true)
      L.length ⟨0, _, _, _, rfl, by omega, Chg.refl _ _, rfl⟩ ?_
    rintro ρ1 m1 g1 vals h2 - ⟨k, v12, v4, v5, rfl, hkm, hc2, hall⟩
    have ho2 := ho6.ext hc2
    have hc02 := hc1.trans hc2
    refine wp_br (fun g3 => ?_) (fun g3 => ?_)
    · have hk' : (k : Int) < (L.length : Int) := of_decide_eq_true g3
      clear g3
      have hk : k < L.length := by omega
      have h0 : 0 < L.length := by omega
      have hke := List.getElem?_eq_getElem hk
      have h0e := List.getElem?_eq_getElem h0
      have hhead : ((L.map (·.1)).head?.getD zBaleR) = L[0].1 := by
        cases L with
        | nil => simp at h0
        | cons _ _ => rfl
      rw [hhead] at hsev hall
      have htk : (L.map (·.1)).take (k + 1) = (L.map (·.1)).take k ++ [L[k].1] := by
        rw [List.take_add_one]
        simp [hke]
      have hmem : L[k].1 ∈ L.map (·.1) := List.mem_map_of_mem (List.getElem_mem hk)
      generalize L[k] = xk at hke htk hmem
      generalize L[0] = x0 at h0e hsev hall hhead
      obtain ⟨b, rfl, rfl⟩ := ho2.ptr (i := ti42) hk
      refine wp_chk ⟨by omega, by omega⟩ ?_
      refine wp_load (ho2.ld1 (i := ti42) enBale hke) ?_
      refine wp_new ?_
      intro b3 h3 hN3
      refine wp_store hN3.here (by rfl) ?_
      intro h4 hU4
      have hc4 : Chg [] h2 h4 := hU4.chgGe (hN3.chg []) hN3.le
      have ho4 := ho2.ext hc4
      refine wp_drawG layOk mixed [] (fun o => freesO (rs [(0, 5)]) (.alt 6 .fin .non)) [] (by kernel_rfl) [6, 12, 46, 47, 48, 4, 5, 58] [] rfl
        (fun vals h' => h' = h4 ∧ vals = [.slice (some ⟨b, 0, none⟩) L.length cap6, .pointer (some ⟨b3, 0, none⟩), .slice (some ⟨b, 0, none⟩) L.length cap6, .int .i64 L.length, .int .i64 k, v4, v5, .bool (!kindB xk.1.kind x0.1.kind)]) ?_ ?_
      · refine wp_load (v := vKind xk.1.kind) (ld_of hU4.here rfl) ?_
        refine wp_chk ⟨by omega, by omega⟩ ?_
        refine wp_load (v := vKind x0.1.kind) ?_ ?_
        · exact (ho4.sl (M := []) (by simp)).ldA (i := ti42) enBale (tf := ti39) rfl (by decide) h0e (k := 1) (by decide)
        · refine wp_sem0 (.bool (!kindB xk.1.kind x0.1.kind)) (fun w => run_kindNe _ _ _ _ w) ?_
          exact wp_done ⟨rfl, rfl⟩
      · rintro ρ2 _ _ ⟨rfl, rfl⟩
        refine wp_br (fun g5 => ?_) (fun g5 => ?_)
        · have d5 : (!kindB xk.1.kind x0.1.kind) = true := g5
          have hf : ((L.map (·.1)).all fun b => kindB b.kind x0.1.kind) = false := by
            rw [List.all_eq_false]
            exact ⟨_, hmem, by simpa using d5⟩
          rw [hf] at hsev
          refine wp_done ?_
          show X.wp _ _ _ _ _ _ _
          exact wp_done ⟨rfl, [], 12, none, 0, none, rfl, hsev, OwnAt.nil, (fun _ h => by cases h), hc02.trans hc4, .none⟩
        · have d5 : (!kindB xk.1.kind x0.1.kind) = false := g5
          refine wp_done ⟨m1 - 1, by omega, k + 1, .pointer (some ⟨b3, 0, none⟩), v4, v5, ?_, by omega, hc2.trans hc4, ?_⟩
          · exact congrArg (fun z => [Value.int .i64 z, .pointer (some ⟨b3, 0, none⟩), v4, v5]) (by rw [w64 (by omega) (by omega)]; omega)
          · rw [hhead, htk, List.all_append, hall]
            simpa using d5
    · have hk' : ¬ ((k : Int) < (L.length : Int)) := of_decide_eq_false g3
      clear g3
      rw [List.take_of_length_le (by rw [List.length_map]; omega)] at hall
      rw [hall] at hsev
      have hL2 : AllOk M h2 L := hL.ext hc2
      refine wp_done ?_
      show X.wp _ _ _ _ _ _ _
      exact wp_done ⟨rfl, L, 0, a6, cap6, blk6, rfl, hsev, ho2, hL2, hc02, hf6⟩
end Go.Xe
