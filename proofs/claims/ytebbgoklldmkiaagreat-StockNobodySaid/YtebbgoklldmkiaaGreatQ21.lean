/- Lemmas on the way: The walks of Map's methods at SI, by the list of the pairs. The walks of the tree's functions at BI: what each gives, for every tree. -/
import Derived.Test.YtebbgoklldmkiaaGreatQ12
import Derived.Test.YtebbgoklldmkiaaGreatQ20
import Derived.Test.YtebbgoklldmkiaaGreatQ10
namespace Go.Xe.SI
open Go Go.Proofs
set_option maxRecDepth 20000
variable {c : World}
abbrev Mp (M : List Nat) (h : Hp) := MapAt (K := ByteArray) (V := Int) 300 ekS elInt ltS M h
def toldV : Tr ByteArray Int → Value
  | .leaf => .tuple #[Value.string ⟨#[]⟩, Value.int .i64 0, .bool false]
  | .node _ k v _ => .tuple #[.string k, Value.int .i64 v, .bool true]
theorem told_c (M) (t : Tr ByteArray Int) (p : Option Addr) (h : Hp) (ht : At M h t p) : Call c Tryz.prog 198 #[.pointer p] h fun v h' => v = toldV t ∧ Chg [] h h' := by
  refine call_of layOk 17 Tryz.func198 Tryz.ntmps198 rfl rfl rfl rfl ?_
  cases t with
  | leaf =>
    obtain rfl := ht
    exact wp_brT rfl (wp_done ⟨rfl, rfl, Chg.refl _ _⟩)
  | node l k v r =>
    obtain ⟨b, pl, pr, rfl, hS, hb, hl, hr⟩ := ht
    refine wp_brF rfl ?_
    refine wp_ord layOk mixed [(0, 10)] [] (by kernel_rfl) ?_
    refine wp_load (ld_of hb rfl) ?_
    refine wp_load (ld_of hb rfl) ?_
    exact wp_done ⟨rfl, rfl, Chg.refl _ _⟩
def getV (k : ByteArray) (xs : List (ByteArray × Int)) : Value := match getL eqS k xs with
  | none => .tuple #[Value.int .i64 0, .bool false]
  | some v => .tuple #[Value.int .i64 v, .bool true]
theorem get_c (M) (xs : List (ByteArray × Int)) (k : ByteArray) (p : Option Addr) (h : Hp) (hm : Mp M h p xs) : Call c Tryz.prog 149 #[.agg #[.pointer p], .string k] h fun v h' => v = getV k xs ∧ Chg [] h h' := by
  obtain ⟨t, ht, rfl, hs⟩ := hm
  refine call_of layOk 19 Tryz.func149 Tryz.ntmps149 rfl rfl rfl rfl ?_
  refine wp_new ?_
  intro bm h1 hN1
  have hc1 := hN1.chg []
  have hc2 := hc1
  refine wp_load (ld_of hN1.here rfl) ?_
  refine wp_call (find_c M k t p _ (ht.ext hc2)) ?_
  rintro _ h3 ⟨q, rfl, hc3, hq⟩
  refine wp_call (told_c M _ q _ hq) ?_
  rintro _ h4 ⟨rfl, hc4⟩
  have hf := findT_get loS k t hs
  generalize findT ltS eqS k t = f at hf
  cases f with
  | leaf =>
    exact wp_done ⟨rfl, (by unfold getV; rw [hf]; rfl), hc2.trans (hc3.trans hc4)⟩
  | node l a b r =>
    exact wp_done ⟨rfl, (by unfold getV; rw [hf.2]; rfl), hc2.trans (hc3.trans hc4)⟩
theorem mput_c (M : List Nat) (xs : List (ByteArray × Int)) (k : ByteArray) (v : Int) (p : Option Addr) (h : Hp) (hM : Bd M h) (hm : Mp M h p xs) (hz : xs.length < 900000) : Call c Tryz.prog 153 #[.agg #[.pointer p], .string k, Value.int .i64 v] h fun x h' => ∃ q, x = .agg #[.pointer q] ∧ Chg [] h h' ∧ Mp M h' q (insL ltS k v xs) := by
  obtain ⟨t, ht, rfl, hs⟩ := hm
  rw [Tr.length_toL] at hz
  refine call_ofM layOk 13 Tryz.func153 Tryz.ntmps153 rfl rfl rfl ?_
  refine wp_new ?_
  intro bm h1 hN1
  have hc1 := hN1.chg []
  refine wp_new ?_
  intro bo h3 hN3
  have hc3 := hc1.trans (hN3.chg [])
  refine wp_load (ld_of (hN3.of hN1.here) rfl) ?_
  refine wp_call (put_c M k v t p _ (hM.chg hc3) (ht.ext hc3) hz) ?_
  rintro _ h4 ⟨q, rfl, hc4, hq⟩
  have ho := hc4.of hN3.here (by simp)
  refine wp_store ho (by rfl) ?_
  intro h5 hU5
  have hn : h.size ≤ bo := Nat.le_trans hc1.size hN3.le
  have hc5 := hU5.chgGe (hc3.trans hc4) hn
  refine wp_done (finM_at [_] rfl ⟨⟨_, _, _, rfl, rfl, ld_of hU5.here rfl⟩, trivial⟩ ⟨q, rfl, hc5, putT ltS k v t, ?_, toL_putT loS k v t hs, sorted_insL loS k v _ hs⟩)
  exact TreeAt.wr hU5 ho (by decide) hq
end Go.Xe.SI
namespace Go.Xe.BI
open Go Go.Proofs
set_option maxRecDepth 20000
variable {c : World}
abbrev At (M : List Nat) (h : Hp) := TreeAt (K := Int) (V := Nat) 217 ekI elPtr M h
theorem len_c (M) (t : Tr Int Nat) (p : Option Addr) (h : Hp) (ht : At M h t p) : Call c Tryz.prog 231 #[.pointer p] h fun v h' => v = .int .i64 t.size ∧ h' = h := by
  refine call_of layOk 9 Tryz.func231 Tryz.ntmps231 rfl rfl rfl rfl ?_
  cases t with
  | leaf =>
    obtain rfl := ht
    exact wp_brT rfl (wp_done ⟨rfl, rfl, rfl⟩)
  | node l k v r =>
    obtain ⟨b, pl, pr, rfl, hS, hb, hl, hr⟩ := ht
    exact wp_brF rfl (wp_load (ld_of hb rfl) (wp_done ⟨rfl, rfl, rfl⟩))
theorem weight_c (M) (t : Tr Int Nat) (p : Option Addr) (h : Hp) (ht : At M h t p) (hs : t.size < 1000000) : Call c Tryz.prog 293 #[.pointer p] h fun v h' => v = .int .i64 (t.size + 1) ∧ h' = h := by
  refine call_of layOk 6 Tryz.func293 Tryz.ntmps293 rfl rfl rfl rfl ?_
  refine wp_call (len_c M t p h ht) ?_
  rintro _ _ ⟨rfl, rfl⟩
  exact wp_done ⟨rfl, congrArg (Value.int .i64) (w64 (by omega) (by omega)), rfl⟩
theorem light_c (M) (t t' : Tr Int Nat) (p p' : Option Addr) (h : Hp) (ht : At M h t p) (ht' : At M h t' p') (hs : t.size < 1000000) (hs' : t'.size < 1000000) : Call c Tryz.prog 286 #[.pointer p, .pointer p'] h fun v h' => v = .bool (decide (t'.size + 1 ≤ 3 * (t.size + 1))) ∧ h' = h := by
  refine call_of layOk 11 Tryz.func286 Tryz.ntmps286 rfl rfl rfl rfl ?_
  refine wp_call (weight_c M t' p' h ht' hs') ?_
  rintro _ _ ⟨rfl, rfl⟩
  refine wp_call (weight_c M t p _ ht hs) ?_
  rintro _ _ ⟨rfl, rfl⟩
  refine wp_done ⟨rfl, congrArg Value.bool ?_, rfl⟩
  rw [w64 (by omega) (by omega)]
  exact decide_eq_decide.2 (by omega)
theorem turned_c (M) (t t' : Tr Int Nat) (p p' : Option Addr) (h : Hp) (ht : At M h t p) (ht' : At M h t' p') (hs : t.size < 1000000) (hs' : t'.size < 1000000) : Call c Tryz.prog 287 #[.pointer p, .pointer p'] h fun v h' => v = .bool (decide (t.size + 1 < 2 * (t'.size + 1))) ∧ h' = h := by
  refine call_of layOk 11 Tryz.func287 Tryz.ntmps287 rfl rfl rfl rfl ?_
  refine wp_call (weight_c M t p h ht hs) ?_
  rintro _ _ ⟨rfl, rfl⟩
  refine wp_call (weight_c M t' p' _ ht' hs') ?_
  rintro _ _ ⟨rfl, rfl⟩
  refine wp_done ⟨rfl, congrArg Value.bool ?_, rfl⟩
  rw [w64 (by omega) (by omega)]
  exact decide_eq_decide.2 (by omega)
theorem over_c (M : List Nat) (l r : Tr Int Nat) (pl pr : Option Addr) (k : Int) (v : Nat) (h : Hp) (hM : Bd M h) (hl : At M h l pl) (hr : At M h r pr) (hs : l.size + r.size < 1000000) : Call c Tryz.prog 263 #[.pointer pl, .int .i64 k, Value.pointer (some ⟨v, 0, none⟩), .pointer pr] h fun x h' => ∃ p, x = .pointer p ∧ Chg [] h h' ∧ At M h' (.node l k v r) p := by
  refine call_of layOk 21 Tryz.func263 Tryz.ntmps263 rfl rfl rfl rfl ?_
  refine wp_call (len_c M l pl h hl) ?_
  rintro _ _ ⟨rfl, rfl⟩
  refine wp_call (len_c M r pr _ hr) ?_
  rintro _ _ ⟨rfl, rfl⟩
  refine wp_new ?_
  intro b h' hN
  refine wp_done ⟨rfl, _, rfl, hN.chg _, b, pl, pr, rfl, hM.fresh hN, ?_, hl.ext (hN.chg _), hr.ext (hN.chg _)⟩
  exact hN.here.trans (congrArg (fun z => some (Obj.cells ((ekI k ++ elPtr v ++ [Value.pointer pl, Value.pointer pr, z]).toArray) 217 (0, 0))) (congrArg (Value.int .i64) (size_w hs)))
theorem bal_c (M : List Nat) (l r : Tr Int Nat) (pl pr : Option Addr) (k : Int) (v : Nat) (h : Hp) (hM : Bd M h) (hl : At M h l pl) (hr : At M h r pr) (hs : l.size + r.size < 1000000) : Call c Tryz.prog 264 #[.pointer pl, .int .i64 k, Value.pointer (some ⟨v, 0, none⟩), .pointer pr] h fun x h' => ∃ p, x = .pointer p ∧ Chg [] h h' ∧ At M h' (bal l k v r) p := by
  refine call_of layOk 162 Tryz.func264 Tryz.ntmps264 rfl rfl rfl rfl ?_
  have hc1 := Chg.refl [] h
  refine wp_call (light_c M l r pl pr _ hl hr (by omega) (by omega)) ?_
  rintro _ _ ⟨rfl, rfl⟩
  refine wp_br (fun h1 => ?_) (fun h1 => ?_)
  · have hli : light l r = false := by simpa [light] using h1
    obtain ⟨rl, rk, rv, rr, rfl⟩ := light_node hli
    obtain ⟨b, ql, qr, rfl, hbM, hb, hrl, hrr⟩ := hr
    simp only [Tr.size] at hs
    refine wp_ord layOk mixed [(0, 8)] [] (by kernel_rfl) ?_
    repeat (first | refine wp_load (ld_of hb rfl) ?_)
    refine wp_call (turned_c M rl rr ql qr _ hrl hrr (by omega) (by omega)) ?_
    rintro _ _ ⟨rfl, rfl⟩
    refine wp_br (fun h2 => ?_) (fun h2 => ?_)
    · have htu : turned rl rr = true := h2
      refine wp_ord layOk mixed [(0, 6), (8, 19), (7, 7), (20, 21)] [7] (by kernel_rfl) ?_
      repeat (first | refine wp_load (ld_of hb rfl) ?_)
      refine wp_callE (over_c M l rl pl ql k v _ hM hl hrl (by omega)) ?_
      rintro _ h2 ⟨p2, rfl, hc2, ht2⟩
      refine ⟨hc2, ?_⟩
      refine wp_callN (over_c M (.node l k v rl) rr p2 qr rk rv h2 (hM.chg hc2) ht2 (hrr.ext hc2) (by simp only [Tr.size]; omega)) ?_
      rintro _ h3 ⟨p3, rfl, hc3, ht3⟩
      refine ⟨hc3, wp_done ⟨rfl, p3, rfl, hc1.trans (hc2.trans hc3), ?_⟩⟩
      simpa only [bal, hli, htu, if_true] using ht3
    · have htu : turned rl rr = false := h2
      obtain ⟨ml, mk, mv, mr, rfl⟩ := turned_node htu
      obtain ⟨bm, qml, qmr, rfl, hbmM, hbm, hml, hmr⟩ := hrl
      simp only [Tr.size] at hs
      repeat (first | refine wp_load (ld_of hb rfl) ?_)
      refine wp_ord layOk mixed [(0, 6), (8, 31), (7, 7), (32, 34)] [7, 32] (by kernel_rfl) ?_
      repeat (first | refine wp_load (ld_of hbm rfl) ?_ | refine wp_load (ld_of hb rfl) ?_)
      refine wp_callE (over_c M l ml pl qml k v _ hM hl hml (by omega)) ?_
      rintro _ h2 ⟨p2, rfl, hc2, ht2⟩
      refine ⟨hc2, ?_⟩
      refine wp_callE (over_c M mr rr qmr qr rk rv h2 (hM.chg hc2) (hmr.ext hc2) (hrr.ext hc2) (by omega)) ?_
      rintro _ h3 ⟨p3, rfl, hc3, ht3⟩
      refine ⟨hc3, ?_⟩
      refine wp_callN (over_c M (.node l k v ml) (.node mr rk rv rr) p2 p3 mk mv h3 ((hM.chg hc2).chg hc3) (ht2.ext hc3) ht3 (by simp only [Tr.size]; omega)) ?_
      rintro _ h4 ⟨p4, rfl, hc4, ht4⟩
      refine ⟨hc4, wp_done ⟨rfl, p4, rfl, hc1.trans (hc2.trans (hc3.trans hc4)), ?_⟩⟩
      simpa only [bal, hli, htu, if_true, Bool.false_eq_true, if_false] using ht4
  · have hli : light l r = true := by simpa [light] using h1
    refine wp_call (light_c M r l pr pl _ hr hl (by omega) (by omega)) ?_
    rintro _ _ ⟨rfl, rfl⟩
    refine wp_br (fun h1' => ?_) (fun h1' => ?_)
    · have hri : light r l = false := by simpa [light] using h1'
      obtain ⟨ll, lk, lv, lr, rfl⟩ := light_node hri
      obtain ⟨b, ql, qr, rfl, hbM, hb, hll, hlr⟩ := hl
      simp only [Tr.size] at hs
      refine wp_ord layOk mixed [(0, 8)] [] (by kernel_rfl) ?_
      repeat (first | refine wp_load (ld_of hb rfl) ?_)
      refine wp_call (turned_c M lr ll qr ql _ hlr hll (by omega) (by omega)) ?_
      rintro _ _ ⟨rfl, rfl⟩
      refine wp_br (fun h2 => ?_) (fun h2 => ?_)
      · have htu : turned lr ll = true := h2
        refine wp_ord layOk mixed [(0, 21)] [19] (by kernel_rfl) ?_
        repeat (first | refine wp_load (ld_of hb rfl) ?_)
        refine wp_callE (over_c M lr r qr pr k v _ hM hlr hr (by omega)) ?_
        rintro _ h2 ⟨p2, rfl, hc2, ht2⟩
        refine ⟨hc2, ?_⟩
        refine wp_callN (over_c M ll (.node lr k v r) ql p2 lk lv h2 (hM.chg hc2) (hll.ext hc2) ht2 (by simp only [Tr.size]; omega)) ?_
        rintro _ h3 ⟨p3, rfl, hc3, ht3⟩
        refine ⟨hc3, wp_done ⟨rfl, p3, rfl, hc1.trans (hc2.trans hc3), ?_⟩⟩
        simpa only [bal, hli, hri, htu, if_true, Bool.true_eq_false, if_false] using ht3
      · have htu : turned lr ll = false := h2
        obtain ⟨ml, mk, mv, mr, rfl⟩ := turned_node htu
        obtain ⟨bm, qml, qmr, rfl, hbmM, hbm, hml, hmr⟩ := hlr
        simp only [Tr.size] at hs
        repeat (first | refine wp_load (ld_of hb rfl) ?_)
        refine wp_ord layOk mixed [(0, 15), (17, 31), (16, 16), (32, 34)] [16, 32] (by kernel_rfl) ?_
        repeat (first | refine wp_load (ld_of hbm rfl) ?_ | refine wp_load (ld_of hb rfl) ?_)
        refine wp_callE (over_c M ll ml ql qml lk lv _ hM hll hml (by omega)) ?_
        rintro _ h2 ⟨p2, rfl, hc2, ht2⟩
        refine ⟨hc2, ?_⟩
        refine wp_callE (over_c M mr r qmr pr k v h2 (hM.chg hc2) (hmr.ext hc2) (hr.ext hc2) (by omega)) ?_
        rintro _ h3 ⟨p3, rfl, hc3, ht3⟩
        refine ⟨hc3, ?_⟩
        refine wp_callN (over_c M (.node ll lk lv ml) (.node mr k v r) p2 p3 mk mv h3 ((hM.chg hc2).chg hc3) (ht2.ext hc3) ht3 (by simp only [Tr.size]; omega)) ?_
        rintro _ h4 ⟨p4, rfl, hc4, ht4⟩
        refine ⟨hc4, wp_done ⟨rfl, p4, rfl, hc1.trans (hc2.trans (hc3.trans hc4)), ?_⟩⟩
        simpa only [bal, hli, hri, htu, if_true, Bool.true_eq_false, Bool.false_eq_true, if_false] using ht4
    · have hri : light r l = true := by simpa [light] using h1'
      refine wp_callN (over_c M l r pl pr k v _ hM hl hr hs) ?_
      rintro _ h3 ⟨p3, rfl, hc3, ht3⟩
      refine ⟨hc3, wp_done ⟨rfl, p3, rfl, hc1.trans hc3, ?_⟩⟩
      simpa only [bal, hli, hri, Bool.true_eq_false, if_false] using ht3
theorem put_c (M : List Nat) (k : Int) (v : Nat) (t : Tr Int Nat) : ∀ (p : Option Addr) (h : Hp), Bd M h → At M h t p → t.size < 900000 → Call c Tryz.prog 239 #[.pointer p, .int .i64 k, Value.pointer (some ⟨v, 0, none⟩)] h fun x h' => ∃ p', x = .pointer p' ∧ Chg [] h h' ∧ At M h' (putT ltI k v t) p' := by
  induction t with
  | leaf =>
    intro p h hM ht hs
    obtain rfl := ht
    refine call_of layOk 78 Tryz.func239 Tryz.ntmps239 rfl rfl rfl rfl ?_
    have hc1 := Chg.refl [] h
    refine wp_brT rfl ?_
    refine wp_callN (over_c M .leaf .leaf none none k v _ hM rfl rfl (by simp [Tr.size])) ?_
    rintro _ h3 ⟨p3, rfl, hc3, ht3⟩
    exact ⟨hc3, wp_done ⟨rfl, p3, rfl, hc1.trans hc3, ht3⟩⟩
  | node l a b r ihl ihr =>
    intro p h hM ht hs
    simp only [Tr.size] at hs
    obtain ⟨bb, ql, qr, rfl, hbM, hb, hl, hr⟩ := ht
    refine call_of layOk 78 Tryz.func239 Tryz.ntmps239 rfl rfl rfl rfl ?_
    have hc1 := Chg.refl [] h
    refine wp_brF rfl ?_
    refine wp_load (ld_of hb rfl) ?_
    refine wp_br (fun h1 => ?_) (fun h1 => ?_)
    · have hk : ltI k a = true := h1
      refine wp_ord layOk mixed [(0, 5), (7, 18), (6, 6), (19, 20)] [6] (by kernel_rfl) ?_
      repeat (first | refine wp_load (ld_of hb rfl) ?_)
      refine wp_callE (ihl ql _ hM hl (by omega)) ?_
      rintro _ h2 ⟨p2, rfl, hc2, ht2⟩
      refine ⟨hc2, ?_⟩
      refine wp_callN (bal_c M (putT ltI k v l) r p2 qr a b h2 (hM.chg hc2) ht2 (hr.ext hc2) (by have := size_putT ltI k v l; omega)) ?_
      rintro _ h3 ⟨p3, rfl, hc3, ht3⟩
      refine ⟨hc3, wp_done ⟨rfl, p3, rfl, hc1.trans (hc2.trans hc3), ?_⟩⟩
      simpa only [putT, hk, if_true] using ht3
    · have hk : ltI k a = false := h1
      refine wp_load (ld_of hb rfl) ?_
      refine wp_br (fun h2 => ?_) (fun h2 => ?_)
      · have hk2 : ltI a k = true := h2
        refine wp_ord layOk mixed [(0, 20)] [18] (by kernel_rfl) ?_
        repeat (first | refine wp_load (ld_of hb rfl) ?_)
        refine wp_callE (ihr qr _ hM hr (by omega)) ?_
        rintro _ h2 ⟨p2, rfl, hc2, ht2⟩
        refine ⟨hc2, ?_⟩
        refine wp_callN (bal_c M l (putT ltI k v r) ql p2 a b h2 (hM.chg hc2) (hl.ext hc2) ht2 (by have := size_putT ltI k v r; omega)) ?_
        rintro _ h3 ⟨p3, rfl, hc3, ht3⟩
        refine ⟨hc3, wp_done ⟨rfl, p3, rfl, hc1.trans (hc2.trans hc3), ?_⟩⟩
        simpa only [putT, hk, hk2, if_true, Bool.false_eq_true, if_false] using ht3
      · have hk2 : ltI a k = false := h2
        refine wp_ord layOk mixed [(0, 11)] [] (by kernel_rfl) ?_
        repeat (first | refine wp_load (ld_of hb rfl) ?_)
        refine wp_callN (over_c M l r ql qr k v _ hM hl hr (by omega)) ?_
        rintro _ h3 ⟨p3, rfl, hc3, ht3⟩
        refine ⟨hc3, wp_done ⟨rfl, p3, rfl, hc1.trans hc3, ?_⟩⟩
        simpa only [putT, hk, hk2, Bool.false_eq_true, if_false] using ht3
theorem find_c (M : List Nat) (k : Int) (t : Tr Int Nat) (p : Option Addr) (h : Hp) (ht : At M h t p) : Call c Tryz.prog 128 #[.agg #[.pointer p], .int .i64 k] h fun x h' => ∃ p', x = .pointer p' ∧ Chg [] h h' ∧ At M h' (findT ltI eqI k t) p' := by
  refine call_of layOk 33 Tryz.func128 Tryz.ntmps128 rfl rfl rfl rfl ?_
  refine wp_new ?_
  intro bm h1 hN1
  have hc1 := hN1.chg []
  refine wp_load (ld_of hN1.here rfl) ?_
  refine wp_loopG layOk [5] 8 31 rfl (fun j vals h' => ∃ t' q, vals = [.pointer q] ∧ h' = h1 ∧ At M h1 t' q ∧ findT ltI eqI k t' = findT ltI eqI k t ∧ j = t'.size) t.size ⟨t, p, rfl, rfl, ht.ext hc1, rfl, rfl⟩ ?_
  rintro j g vals h' - ⟨t', q, rfl, rfl, ht', hf, rfl⟩
  cases t' with
  | leaf =>
    obtain rfl := ht'
    repeat refine wp_brF rfl ?_
    refine wp_done ?_
    show X.wp _ _ _ _ _ _ _
    exact wp_done ⟨rfl, _, rfl, hc1, by rw [← hf]; rfl⟩
  | node l a b r =>
    obtain ⟨bb, ql, qr, rfl, hbM, hb, hl, hr⟩ := id ht'
    repeat (first | refine wp_brT rfl ?_ | refine wp_load (ld_of hb rfl) ?_)
    refine wp_br (fun h1 => ?_) (fun h1 => ?_)
    · have he : eqI a k = false := by simpa [eqI] using h1
      refine wp_load (ld_of hb rfl) ?_
      refine wp_br (fun h2 => ?_) (fun h2 => ?_)
      · refine wp_load (ld_of hb rfl) ?_
        have hk : ltI k a = true := h2
        refine wp_done ⟨l.size, by simp only [Tr.size]; omega, l, ql, rfl, rfl, hl, ?_, rfl⟩
        rw [← hf]; simp only [findT, he, hk, Bool.false_eq_true, if_false, if_true]
      · refine wp_load (ld_of hb rfl) ?_
        have hk : ltI k a = false := h2
        refine wp_done ⟨r.size, by simp only [Tr.size]; omega, r, qr, rfl, rfl, hr, ?_, rfl⟩
        rw [← hf]; simp only [findT, he, hk, Bool.false_eq_true, if_false]
    · have he : eqI a k = true := by simpa [eqI] using h1
      refine wp_done ?_
      show X.wp _ _ _ _ _ _ _
      refine wp_done ⟨rfl, _, rfl, hc1, ?_⟩
      rw [← hf]; simpa only [findT, he, if_true] using ht'
end Go.Xe.BI
