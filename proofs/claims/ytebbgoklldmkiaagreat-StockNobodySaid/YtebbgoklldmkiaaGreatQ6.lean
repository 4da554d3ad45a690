/- Lemmas on the way: The walks of the tree's functions at BI: what each gives, for every tree. The walks of Map's methods at BI, by the list of the pairs. The walks of the tree's functions at SL: what each gives, for every tree. The walks of Map's methods at SL, by the list of the pairs. The walks of the tree's functions at TI: what each gives, for every tree. The walks of Map's methods at TI, by the list of the pairs. A state of the store in memory. The small methods of a state. find and tell. Moves; what receive tells the totals. stock.name. -/
import Derived.Test.YtebbgoklldmkiaaGreatQ4
import Derived.Test.YtebbgoklldmkiaaGreatQ5
namespace Go.Xe.BI
open Go Go.Proofs
set_option maxRecDepth 20000
variable {c : World}
abbrev At (M : List Nat) (h : Hp) := TreeAt (K := Int) (V := Nat) 217 ekI elPtr M h
theorem len_c (M) (t : Tr Int Nat) (p : Option Addr) (h : Hp) (ht : At M h t p) : Call c Tryz.prog 231 #[.pointer p] h fun v h' => v = .int .i64 t.size ∧ h' = h := by
  refine call_of layOk 9 Tryz.func231 Tryz.ntmps231 rfl rfl rfl rfl ?_
  cases t with
  | leaf =>
    obtain rfl := ht
    exact wp_brT rfl (wp_done ⟨rfl, rfl, rfl⟩)
  | node l k v r =>
    obtain ⟨b, pl, pr, rfl, hS, hb, hl, hr⟩ := ht
    exact wp_brF rfl (wp_load (ld_of hb rfl) (wp_done ⟨rfl, rfl, rfl⟩))
theorem weight_c (M) (t : Tr Int Nat) (p : Option Addr) (h : Hp) (ht : At M h t p) (hs : t.size < 1000000) : Call c Tryz.prog 293 #[.pointer p] h fun v h' => v = .int .i64 (t.size + 1) ∧ h' = h := by
  refine call_of layOk 6 Tryz.func293 Tryz.ntmps293 rfl rfl rfl rfl ?_
  refine wp_call (len_c M t p h ht) ?_
  rintro _ _ ⟨rfl, rfl⟩
  exact wp_done ⟨rfl, congrArg (Value.int .i64) (w64 (by omega) (by omega)), rfl⟩
theorem light_c (M) (t t' : Tr Int Nat) (p p' : Option Addr) (h : Hp) (ht : At M h t p) (ht' : At M h t' p') (hs : t.size < 1000000) (hs' : t'.size < 1000000) : Call c Tryz.prog 286 #[.pointer p, .pointer p'] h fun v h' => v = .bool (decide (t'.size + 1 ≤ 3 * (t.size + 1))) ∧ h' = h := by
  refine call_of layOk 11 Tryz.func286 Tryz.ntmps286 rfl rfl rfl rfl ?_
  refine wp_call (weight_c M t' p' h ht' hs') ?_
  rintro _ _ ⟨rfl, rfl⟩
  refine wp_call (weight_c M t p _ ht hs) ?_
  rintro _ _ ⟨rfl, rfl⟩
  refine wp_done ⟨rfl, congrArg Value.bool ?_, rfl⟩
  rw [w64 (by omega) (by omega)]
  exact decide_eq_decide.2 (by omega)
theorem turned_c (M) (t t' : Tr Int Nat) (p p' : Option Addr) (h : Hp) (ht : At M h t p) (ht' : At M h t' p') (hs : t.size < 1000000) (hs' : t'.size < 1000000) : Call c Tryz.prog 287 #[.pointer p, .pointer p'] h fun v h' => v = .bool (decide (t.size + 1 < 2 * (t'.size + 1))) ∧ h' = h := by
  refine call_of layOk 11 Tryz.func287 Tryz.ntmps287 rfl rfl rfl rfl ?_
  refine wp_call (weight_c M t p h ht hs) ?_
  rintro _ _ ⟨rfl, rfl⟩
  refine wp_call (weight_c M t' p' _ ht' hs') ?_
  rintro _ _ ⟨rfl, rfl⟩
  refine wp_done ⟨rfl, congrArg Value.bool ?_, rfl⟩
  rw [w64 (by omega) (by omega)]
  exact decide_eq_decide.2 (by omega)
theorem over_c (M : List Nat) (l r : Tr Int Nat) (pl pr : Option Addr) (k : Int) (v : Nat) (h : Hp) (hM : Bd M h) (hl : At M h l pl) (hr : At M h r pr) (hs : l.size + r.size < 1000000) : Call c Tryz.prog 263 #[.pointer pl, .int .i64 k, Value.pointer (some ⟨v, 0, none⟩), .pointer pr] h fun x h' => ∃ p, x = .pointer p ∧ Chg [] h h' ∧ At M h' (.node l k v r) p := by
  refine call_of layOk 21 Tryz.func263 Tryz.ntmps263 rfl rfl rfl rfl ?_
  refine wp_call (len_c M l pl h hl) ?_
  rintro _ _ ⟨rfl, rfl⟩
  refine wp_call (len_c M r pr _ hr) ?_
  rintro _ _ ⟨rfl, rfl⟩
  refine wp_new ?_
  intro b h' hN
  refine wp_done ⟨rfl, _, rfl, hN.chg _, b, pl, pr, rfl, hM.fresh hN, ?_, hl.ext (hN.chg _), hr.ext (hN.chg _)⟩
  exact hN.here.trans (congrArg (fun z => some (Obj.cells ((ekI k ++ elPtr v ++ [Value.pointer pl, Value.pointer pr, z]).toArray) 217 (0, 0))) (congrArg (Value.int .i64) (size_w hs)))
theorem bal_c (M : List Nat) (l r : Tr Int Nat) (pl pr : Option Addr) (k : Int) (v : Nat) (h : Hp) (hM : Bd M h) (hl : At M h l pl) (hr : At M h r pr) (hs : l.size + r.size < 1000000) : Call c Tryz.prog 264 #[.pointer pl, .int .i64 k, Value.pointer (some ⟨v, 0, none⟩), .pointer pr] h fun x h' => ∃ p, x = .pointer p ∧ Chg [] h h' ∧ At M h' (bal l k v r) p := by
  refine call_of layOk 162 Tryz.func264 Tryz.ntmps264 rfl rfl rfl rfl ?_
  have hc1 := Chg.refl [] h
  refine wp_call (light_c M l r pl pr _ hl hr (by omega) (by omega)) ?_
  rintro _ _ ⟨rfl, rfl⟩
  refine wp_br (fun h1 => ?_) (fun h1 => ?_)
  · have hli : light l r = false := by simpa [light] using h1
    obtain ⟨rl, rk, rv, rr, rfl⟩ := light_node hli
    obtain ⟨b, ql, qr, rfl, hbM, hb, hrl, hrr⟩ := hr
    simp only [Tr.size] at hs
    refine wp_ord layOk mixed [(0, 8)] [] (by kernel_rfl) ?_
    repeat (first | refine wp_load (ld_of hb rfl) ?_)
    refine wp_call (turned_c M rl rr ql qr _ hrl hrr (by omega) (by omega)) ?_
    rintro _ _ ⟨rfl, rfl⟩
    refine wp_br (fun h2 => ?_) (fun h2 => ?_)
    · have htu : turned rl rr = true := h2
      refine wp_ord layOk mixed [(0, 6), (8, 19), (7, 7), (20, 21)] [7] (by kernel_rfl) ?_
      repeat (first | refine wp_load (ld_of hb rfl) ?_)
      refine wp_callE (over_c M l rl pl ql k v _ hM hl hrl (by omega)) ?_
      rintro _ h2 ⟨p2, rfl, hc2, ht2⟩
      refine ⟨hc2, ?_⟩
      refine wp_callN (over_c M (.node l k v rl) rr p2 qr rk rv h2 (hM.chg hc2) ht2 (hrr.ext hc2) (by simp only [Tr.size]; omega)) ?_
      rintro _ h3 ⟨p3, rfl, hc3, ht3⟩
      refine ⟨hc3, wp_done ⟨rfl, p3, rfl, hc1.trans (hc2.trans hc3), ?_⟩⟩
      simpa only [bal, hli, htu, if_true] using ht3
    · have htu : turned rl rr = false := h2
      obtain ⟨ml, mk, mv, mr, rfl⟩ := turned_node htu
      obtain ⟨bm, qml, qmr, rfl, hbmM, hbm, hml, hmr⟩ := hrl
      simp only [Tr.size] at hs
      repeat (first | refine wp_load (ld_of hb rfl) ?_)
      refine wp_ord layOk mixed [(0, 6), (8, 31), (7, 7), (32, 34)] [7, 32] (by kernel_rfl) ?_
      repeat (first | refine wp_load (ld_of hbm rfl) ?_ | refine wp_load (ld_of hb rfl) ?_)
      refine wp_callE (over_c M l ml pl qml k v _ hM hl hml (by omega)) ?_
      rintro _ h2 ⟨p2, rfl, hc2, ht2⟩
      refine ⟨hc2, ?_⟩
      refine wp_callE (over_c M mr rr qmr qr rk rv h2 (hM.chg hc2) (hmr.ext hc2) (hrr.ext hc2) (by omega)) ?_
      rintro _ h3 ⟨p3, rfl, hc3, ht3⟩
      refine ⟨hc3, ?_⟩
      refine wp_callN (over_c M (.node l k v ml) (.node mr rk rv rr) p2 p3 mk mv h3 ((hM.chg hc2).chg hc3) (ht2.ext hc3) ht3 (by simp only [Tr.size]; omega)) ?_
      rintro _ h4 ⟨p4, rfl, hc4, ht4⟩
      refine ⟨hc4, wp_done ⟨rfl, p4, rfl, hc1.trans (hc2.trans (hc3.trans hc4)), ?_⟩⟩
      simpa only [bal, hli, htu, if_true, Bool.false_eq_true, if_false] using ht4
  · have hli : light l r = true := by simpa [light] using h1
    refine wp_call (light_c M r l pr pl _ hr hl (by omega) (by omega)) ?_
    rintro _ _ ⟨rfl, rfl⟩
    refine wp_br (fun h1' => ?_) (fun h1' => ?_)
    · have hri : light r l = false := by simpa [light] using h1'
      obtain ⟨ll, lk, lv, lr, rfl⟩ := light_node hri
      obtain ⟨b, ql, qr, rfl, hbM, hb, hll, hlr⟩ := hl
      simp only [Tr.size] at hs
      refine wp_ord layOk mixed [(0, 8)] [] (by kernel_rfl) ?_
      repeat (first | refine wp_load (ld_of hb rfl) ?_)
      refine wp_call (turned_c M lr ll qr ql _ hlr hll (by omega) (by omega)) ?_
      rintro _ _ ⟨rfl, rfl⟩
      refine wp_br (fun h2 => ?_) (fun h2 => ?_)
      · have htu : turned lr ll = true := h2
        refine wp_ord layOk mixed [(0, 21)] [19] (by kernel_rfl) ?_
        repeat (first | refine wp_load (ld_of hb rfl) ?_)
        refine wp_callE (over_c M lr r qr pr k v _ hM hlr hr (by omega)) ?_
        rintro _ h2 ⟨p2, rfl, hc2, ht2⟩
        refine ⟨hc2, ?_⟩
        refine wp_callN (over_c M ll (.node lr k v r) ql p2 lk lv h2 (hM.chg hc2) (hll.ext hc2) ht2 (by simp only [Tr.size]; omega)) ?_
        rintro _ h3 ⟨p3, rfl, hc3, ht3⟩
        refine ⟨hc3, wp_done ⟨rfl, p3, rfl, hc1.trans (hc2.trans hc3), ?_⟩⟩
        simpa only [bal, hli, hri, htu, if_true, Bool.true_eq_false, if_false] using ht3
      · have htu : turned lr ll = false := h2
        obtain ⟨ml, mk, mv, mr, rfl⟩ := turned_node htu
        obtain ⟨bm, qml, qmr, rfl, hbmM, hbm, hml, hmr⟩ := hlr
        simp only [Tr.size] at hs
        repeat (first | refine wp_load (ld_of hb rfl) ?_)
        refine wp_ord layOk mixed [(0, 15), (17, 31), (16, 16), (32, 34)] [16, 32] (by kernel_rfl) ?_
        repeat (first | refine wp_load (ld_of hbm rfl) ?_ | refine wp_load (ld_of hb rfl) ?_)
        refine wp_callE (over_c M ll ml ql qml lk lv _ hM hll hml (by omega)) ?_
        rintro _ h2 ⟨p2, rfl, hc2, ht2⟩
        refine ⟨hc2, ?_⟩
        refine wp_callE (over_c M mr r qmr pr k v h2 (hM.chg hc2) (hmr.ext hc2) (hr.ext hc2) (by omega)) ?_
        rintro _ h3 ⟨p3, rfl, hc3, ht3⟩
        refine ⟨hc3, ?_⟩
        refine wp_callN (over_c M (.node ll lk lv ml) (.node mr k v r) p2 p3 mk mv h3 ((hM.chg hc2).chg hc3) (ht2.ext hc3) ht3 (by simp only [Tr.size]; omega)) ?_
        rintro _ h4 ⟨p4, rfl, hc4, ht4⟩
        refine ⟨hc4, wp_done ⟨rfl, p4, rfl, hc1.trans (hc2.trans (hc3.trans hc4)), ?_⟩⟩
        simpa only [bal, hli, hri, htu, if_true, Bool.true_eq_false, Bool.false_eq_true, if_false] using ht4
    · have hri : light r l = true := by simpa [light] using h1'
      refine wp_callN (over_c M l r pl pr k v _ hM hl hr hs) ?_
      rintro _ h3 ⟨p3, rfl, hc3, ht3⟩
      refine ⟨hc3, wp_done ⟨rfl, p3, rfl, hc1.trans hc3, ?_⟩⟩
      simpa only [bal, hli, hri, Bool.true_eq_false, if_false] using ht3
theorem put_c (M : List Nat) (k : Int) (v : Nat) (t : Tr Int Nat) : ∀ (p : Option Addr) (h : Hp), Bd M h → At M h t p → t.size < 900000 → Call c Tryz.prog 239 #[.pointer p, .int .i64 k, Value.pointer (some ⟨v, 0, none⟩)] h fun x h' => ∃ p', x = .pointer p' ∧ Chg [] h h' ∧ At M h' (putT ltI k v t) p' := by
  induction t with
  | leaf =>
    intro p h hM ht hs
    obtain rfl := ht
    refine call_of layOk 78 Tryz.func239 Tryz.ntmps239 rfl rfl rfl rfl ?_
    have hc1 := Chg.refl [] h
    refine wp_brT rfl ?_
    refine wp_callN (over_c M .leaf .leaf none none k v _ hM rfl rfl (by simp [Tr.size])) ?_
    rintro _ h3 ⟨p3, rfl, hc3, ht3⟩
    exact ⟨hc3, wp_done ⟨rfl, p3, rfl, hc1.trans hc3, ht3⟩⟩
  | node l a b r ihl ihr =>
    intro p h hM ht hs
    simp only [Tr.size] at hs
    obtain ⟨bb, ql, qr, rfl, hbM, hb, hl, hr⟩ := ht
    refine call_of layOk 78 Tryz.func239 Tryz.ntmps239 rfl rfl rfl rfl ?_
    have hc1 := Chg.refl [] h
    refine wp_brF rfl ?_
    refine wp_load (ld_of hb rfl) ?_
    refine wp_br (fun h1 => ?_) (fun h1 => ?_)
    · have hk : ltI k a = true := h1
      refine wp_ord layOk mixed [(0, 5), (7, 18), (6, 6), (19, 20)] [6] (by kernel_rfl) ?_
      repeat (first | refine wp_load (ld_of hb rfl) ?_)
      refine wp_callE (ihl ql _ hM hl (by omega)) ?_
      rintro _ h2 ⟨p2, rfl, hc2, ht2⟩
      refine ⟨hc2, ?_⟩
      refine wp_callN (bal_c M (putT ltI k v l) r p2 qr a b h2 (hM.chg hc2) ht2 (hr.ext hc2) (by have := size_putT ltI k v l; omega)) ?_
      rintro _ h3 ⟨p3, rfl, hc3, ht3⟩
      refine ⟨hc3, wp_done ⟨rfl, p3, rfl, hc1.trans (hc2.trans hc3), ?_⟩⟩
      simpa only [putT, hk, if_true] using ht3
    · have hk : ltI k a = false := h1
      refine wp_load (ld_of hb rfl) ?_
      refine wp_br (fun h2 => ?_) (fun h2 => ?_)
      · have hk2 : ltI a k = true := h2
        refine wp_ord layOk mixed [(0, 20)] [18] (by kernel_rfl) ?_
        repeat (first | refine wp_load (ld_of hb rfl) ?_)
        refine wp_callE (ihr qr _ hM hr (by omega)) ?_
        rintro _ h2 ⟨p2, rfl, hc2, ht2⟩
        refine ⟨hc2, ?_⟩
        refine wp_callN (bal_c M l (putT ltI k v r) ql p2 a b h2 (hM.chg hc2) (hl.ext hc2) ht2 (by have := size_putT ltI k v r; omega)) ?_
        rintro _ h3 ⟨p3, rfl, hc3, ht3⟩
        refine ⟨hc3, wp_done ⟨rfl, p3, rfl, hc1.trans (hc2.trans hc3), ?_⟩⟩
        simpa only [putT, hk, hk2, if_true, Bool.false_eq_true, if_false] using ht3
      · have hk2 : ltI a k = false := h2
        refine wp_ord layOk mixed [(0, 11)] [] (by kernel_rfl) ?_
        repeat (first | refine wp_load (ld_of hb rfl) ?_)
        refine wp_callN (over_c M l r ql qr k v _ hM hl hr (by omega)) ?_
        rintro _ h3 ⟨p3, rfl, hc3, ht3⟩
        refine ⟨hc3, wp_done ⟨rfl, p3, rfl, hc1.trans hc3, ?_⟩⟩
        simpa only [putT, hk, hk2, Bool.false_eq_true, if_false] using ht3
theorem find_c (M : List Nat) (k : Int) (t : Tr Int Nat) (p : Option Addr) (h : Hp) (ht : At M h t p) : Call c Tryz.prog 128 #[.agg #[.pointer p], .int .i64 k] h fun x h' => ∃ p', x = .pointer p' ∧ Chg [] h h' ∧ At M h' (findT ltI eqI k t) p' := by
  refine call_of layOk 33 Tryz.func128 Tryz.ntmps128 rfl rfl rfl rfl ?_
  refine wp_new ?_
  intro bm h1 hN1
  have hc1 := hN1.chg []
  refine wp_load (ld_of hN1.here rfl) ?_
  refine wp_loopG layOk [5] 8 31 rfl (fun j vals h' => ∃ t' q, vals = [.pointer q] ∧ h' = h1 ∧ At M h1 t' q ∧ findT ltI eqI k t' = findT ltI eqI k t ∧ j = t'.size) t.size ⟨t, p, rfl, rfl, ht.ext hc1, rfl, rfl⟩ ?_
  rintro j g vals h' - ⟨t', q, rfl, rfl, ht', hf, rfl⟩
  cases t' with
  | leaf =>
    obtain rfl := ht'
    repeat refine wp_brF rfl ?_
    refine wp_done ?_
    show X.wp _ _ _ _ _ _ _
    exact wp_done ⟨rfl, _, rfl, hc1, by rw [← hf]; rfl⟩
  | node l a b r =>
    obtain ⟨bb, ql, qr, rfl, hbM, hb, hl, hr⟩ := id ht'
    repeat (first | refine wp_brT rfl ?_ | refine wp_load (ld_of hb rfl) ?_)
    refine wp_br (fun h1 => ?_) (fun h1 => ?_)
    · have he : eqI a k = false := by simpa [eqI] using h1
      refine wp_load (ld_of hb rfl) ?_
      refine wp_br (fun h2 => ?_) (fun h2 => ?_)
      · refine wp_load (ld_of hb rfl) ?_
        have hk : ltI k a = true := h2
        refine wp_done ⟨l.size, by simp only [Tr.size]; omega, l, ql, rfl, rfl, hl, ?_, rfl⟩
        rw [← hf]; simp only [findT, he, hk, Bool.false_eq_true, if_false, if_true]
      · refine wp_load (ld_of hb rfl) ?_
        have hk : ltI k a = false := h2
        refine wp_done ⟨r.size, by simp only [Tr.size]; omega, r, qr, rfl, rfl, hr, ?_, rfl⟩
        rw [← hf]; simp only [findT, he, hk, Bool.false_eq_true, if_false]
    · have he : eqI a k = true := by simpa [eqI] using h1
      refine wp_done ?_
      show X.wp _ _ _ _ _ _ _
      refine wp_done ⟨rfl, _, rfl, hc1, ?_⟩
      rw [← hf]; simpa only [findT, he, if_true] using ht'
end Go.Xe.BI
namespace Go.Xe.BI
open Go Go.Proofs
set_option maxRecDepth 20000
variable {c : World}
abbrev Mp (M : List Nat) (h : Hp) := MapAt (K := Int) (V := Nat) 217 ekI elPtr ltI M h
def toldV : Tr Int Nat → Value
  | .leaf => .tuple #[Value.int .i64 0, Value.pointer none, .bool false]
  | .node _ k v _ => .tuple #[.int .i64 k, vPtr v, .bool true]
theorem told_c (M) (t : Tr Int Nat) (p : Option Addr) (h : Hp) (ht : At M h t p) : Call c Tryz.prog 127 #[.pointer p] h fun v h' => v = toldV t ∧ Chg [] h h' := by
  refine call_of layOk 17 Tryz.func127 Tryz.ntmps127 rfl rfl rfl rfl ?_
  cases t with
  | leaf =>
    obtain rfl := ht
    exact wp_brT rfl (wp_done ⟨rfl, rfl, Chg.refl _ _⟩)
  | node l k v r =>
    obtain ⟨b, pl, pr, rfl, hS, hb, hl, hr⟩ := ht
    refine wp_brF rfl ?_
    refine wp_ord layOk mixed [(0, 10)] [] (by kernel_rfl) ?_
    refine wp_load (ld_of hb rfl) ?_
    refine wp_load (ld_of hb rfl) ?_
    exact wp_done ⟨rfl, rfl, Chg.refl _ _⟩
def getV (k : Int) (xs : List (Int × Nat)) : Value := match getL eqI k xs with
  | none => .tuple #[Value.pointer none, .bool false]
  | some v => .tuple #[vPtr v, .bool true]
theorem get_c (M) (xs : List (Int × Nat)) (k : Int) (p : Option Addr) (h : Hp) (hm : Mp M h p xs) : Call c Tryz.prog 85 #[.agg #[.pointer p], .int .i64 k] h fun v h' => v = getV k xs ∧ Chg [] h h' := by
  obtain ⟨t, ht, rfl, hs⟩ := hm
  refine call_of layOk 19 Tryz.func85 Tryz.ntmps85 rfl rfl rfl rfl ?_
  refine wp_new ?_
  intro bm h1 hN1
  have hc1 := hN1.chg []
  have hc2 := hc1
  refine wp_load (ld_of hN1.here rfl) ?_
  refine wp_call (find_c M k t p _ (ht.ext hc2)) ?_
  rintro _ h3 ⟨q, rfl, hc3, hq⟩
  refine wp_call (told_c M _ q _ hq) ?_
  rintro _ h4 ⟨rfl, hc4⟩
  have hf := findT_get loI k t hs
  generalize findT ltI eqI k t = f at hf
  cases f with
  | leaf =>
    exact wp_done ⟨rfl, (by unfold getV; rw [hf]; rfl), hc2.trans (hc3.trans hc4)⟩
  | node l a b r =>
    exact wp_done ⟨rfl, (by unfold getV; rw [hf.2]; rfl), hc2.trans (hc3.trans hc4)⟩
theorem mput_c (M : List Nat) (xs : List (Int × Nat)) (k : Int) (v : Nat) (p : Option Addr) (h : Hp) (hM : Bd M h) (hm : Mp M h p xs) (hz : xs.length < 900000) : Call c Tryz.prog 207 #[.agg #[.pointer p], .int .i64 k, Value.pointer (some ⟨v, 0, none⟩)] h fun x h' => ∃ q, x = .agg #[.pointer q] ∧ Chg [] h h' ∧ Mp M h' q (insL ltI k v xs) := by
  obtain ⟨t, ht, rfl, hs⟩ := hm
  rw [Tr.length_toL] at hz
  refine call_ofM layOk 13 Tryz.func207 Tryz.ntmps207 rfl rfl rfl ?_
  refine wp_new ?_
  intro bm h1 hN1
  have hc1 := hN1.chg []
  refine wp_new ?_
  intro bo h3 hN3
  have hc3 := hc1.trans (hN3.chg [])
  refine wp_load (ld_of (hN3.of hN1.here) rfl) ?_
  refine wp_call (put_c M k v t p _ (hM.chg hc3) (ht.ext hc3) hz) ?_
  rintro _ h4 ⟨q, rfl, hc4, hq⟩
  have ho := hc4.of hN3.here (by simp)
  refine wp_store ho (by rfl) ?_
  intro h5 hU5
  have hn : h.size ≤ bo := Nat.le_trans hc1.size hN3.le
  have hc5 := hU5.chgGe (hc3.trans hc4) hn
  refine wp_done (finM_at [_] rfl ⟨⟨_, _, _, rfl, rfl, ld_of hU5.here rfl⟩, trivial⟩ ⟨q, rfl, hc5, putT ltI k v t, ?_, toL_putT loI k v t hs, sorted_insL loI k v _ hs⟩)
  exact TreeAt.wr hU5 ho (by decide) hq
theorem mlen_c (M) (xs : List (Int × Nat)) (p : Option Addr) (h : Hp) (hm : Mp M h p xs) : Call c Tryz.prog 203 #[.agg #[.pointer p]] h fun v h' => v = .int .i64 xs.length ∧ Chg [] h h' := by
  obtain ⟨t, ht, rfl, hs⟩ := hm
  rw [Tr.length_toL]
  refine call_of layOk 6 Tryz.func203 Tryz.ntmps203 rfl rfl rfl rfl ?_
  refine wp_new ?_
  intro bm h1 hN1
  have hc1 := hN1.chg []
  refine wp_load (ld_of hN1.here rfl) ?_
  refine wp_call (len_c M t p _ (ht.ext hc1)) ?_
  rintro _ _ ⟨rfl, rfl⟩
  exact wp_done ⟨rfl, rfl, hc1⟩
end Go.Xe.BI
namespace Go.Xe.SL
open Go Go.Proofs
set_option maxRecDepth 20000
variable {c : World}
abbrev At (M : List Nat) (h : Hp) := TreeAt (K := ByteArray) (V := Nat) 220 ekS elPtr M h
theorem len_c (M) (t : Tr ByteArray Nat) (p : Option Addr) (h : Hp) (ht : At M h t p) : Call c Tryz.prog 217 #[.pointer p] h fun v h' => v = .int .i64 t.size ∧ h' = h := by
  refine call_of layOk 9 Tryz.func217 Tryz.ntmps217 rfl rfl rfl rfl ?_
  cases t with
  | leaf =>
    obtain rfl := ht
    exact wp_brT rfl (wp_done ⟨rfl, rfl, rfl⟩)
  | node l k v r =>
    obtain ⟨b, pl, pr, rfl, hS, hb, hl, hr⟩ := ht
    exact wp_brF rfl (wp_load (ld_of hb rfl) (wp_done ⟨rfl, rfl, rfl⟩))
theorem weight_c (M) (t : Tr ByteArray Nat) (p : Option Addr) (h : Hp) (ht : At M h t p) (hs : t.size < 1000000) : Call c Tryz.prog 289 #[.pointer p] h fun v h' => v = .int .i64 (t.size + 1) ∧ h' = h := by
  refine call_of layOk 6 Tryz.func289 Tryz.ntmps289 rfl rfl rfl rfl ?_
  refine wp_call (len_c M t p h ht) ?_
  rintro _ _ ⟨rfl, rfl⟩
  exact wp_done ⟨rfl, congrArg (Value.int .i64) (w64 (by omega) (by omega)), rfl⟩
theorem light_c (M) (t t' : Tr ByteArray Nat) (p p' : Option Addr) (h : Hp) (ht : At M h t p) (ht' : At M h t' p') (hs : t.size < 1000000) (hs' : t'.size < 1000000) : Call c Tryz.prog 268 #[.pointer p, .pointer p'] h fun v h' => v = .bool (decide (t'.size + 1 ≤ 3 * (t.size + 1))) ∧ h' = h := by
  refine call_of layOk 11 Tryz.func268 Tryz.ntmps268 rfl rfl rfl rfl ?_
  refine wp_call (weight_c M t' p' h ht' hs') ?_
  rintro _ _ ⟨rfl, rfl⟩
  refine wp_call (weight_c M t p _ ht hs) ?_
  rintro _ _ ⟨rfl, rfl⟩
  refine wp_done ⟨rfl, congrArg Value.bool ?_, rfl⟩
  rw [w64 (by omega) (by omega)]
  exact decide_eq_decide.2 (by omega)
theorem turned_c (M) (t t' : Tr ByteArray Nat) (p p' : Option Addr) (h : Hp) (ht : At M h t p) (ht' : At M h t' p') (hs : t.size < 1000000) (hs' : t'.size < 1000000) : Call c Tryz.prog 269 #[.pointer p, .pointer p'] h fun v h' => v = .bool (decide (t.size + 1 < 2 * (t'.size + 1))) ∧ h' = h := by
  refine call_of layOk 11 Tryz.func269 Tryz.ntmps269 rfl rfl rfl rfl ?_
  refine wp_call (weight_c M t p h ht hs) ?_
  rintro _ _ ⟨rfl, rfl⟩
  refine wp_call (weight_c M t' p' _ ht' hs') ?_
  rintro _ _ ⟨rfl, rfl⟩
  refine wp_done ⟨rfl, congrArg Value.bool ?_, rfl⟩
  rw [w64 (by omega) (by omega)]
  exact decide_eq_decide.2 (by omega)
theorem over_c (M : List Nat) (l r : Tr ByteArray Nat) (pl pr : Option Addr) (k : ByteArray) (v : Nat) (h : Hp) (hM : Bd M h) (hl : At M h l pl) (hr : At M h r pr) (hs : l.size + r.size < 1000000) : Call c Tryz.prog 244 #[.pointer pl, .string k, Value.pointer (some ⟨v, 0, none⟩), .pointer pr] h fun x h' => ∃ p, x = .pointer p ∧ Chg [] h h' ∧ At M h' (.node l k v r) p := by
  refine call_of layOk 21 Tryz.func244 Tryz.ntmps244 rfl rfl rfl rfl ?_
  refine wp_call (len_c M l pl h hl) ?_
  rintro _ _ ⟨rfl, rfl⟩
  refine wp_call (len_c M r pr _ hr) ?_
  rintro _ _ ⟨rfl, rfl⟩
  refine wp_new ?_
  intro b h' hN
  refine wp_done ⟨rfl, _, rfl, hN.chg _, b, pl, pr, rfl, hM.fresh hN, ?_, hl.ext (hN.chg _), hr.ext (hN.chg _)⟩
  exact hN.here.trans (congrArg (fun z => some (Obj.cells ((ekS k ++ elPtr v ++ [Value.pointer pl, Value.pointer pr, z]).toArray) 220 (0, 0))) (congrArg (Value.int .i64) (size_w hs)))
theorem bal_c (M : List Nat) (l r : Tr ByteArray Nat) (pl pr : Option Addr) (k : ByteArray) (v : Nat) (h : Hp) (hM : Bd M h) (hl : At M h l pl) (hr : At M h r pr) (hs : l.size + r.size < 1000000) : Call c Tryz.prog 245 #[.pointer pl, .string k, Value.pointer (some ⟨v, 0, none⟩), .pointer pr] h fun x h' => ∃ p, x = .pointer p ∧ Chg [] h h' ∧ At M h' (bal l k v r) p := by
  refine call_of layOk 162 Tryz.func245 Tryz.ntmps245 rfl rfl rfl rfl ?_
  have hc1 := Chg.refl [] h
  refine wp_call (light_c M l r pl pr _ hl hr (by omega) (by omega)) ?_
  rintro _ _ ⟨rfl, rfl⟩
  refine wp_br (fun h1 => ?_) (fun h1 => ?_)
  · have hli : light l r = false := by simpa [light] using h1
    obtain ⟨rl, rk, rv, rr, rfl⟩ := light_node hli
    obtain ⟨b, ql, qr, rfl, hbM, hb, hrl, hrr⟩ := hr
    simp only [Tr.size] at hs
    refine wp_ord layOk mixed [(0, 8)] [] (by kernel_rfl) ?_
    repeat (first | refine wp_load (ld_of hb rfl) ?_)
    refine wp_call (turned_c M rl rr ql qr _ hrl hrr (by omega) (by omega)) ?_
    rintro _ _ ⟨rfl, rfl⟩
    refine wp_br (fun h2 => ?_) (fun h2 => ?_)
    · have htu : turned rl rr = true := h2
      refine wp_ord layOk mixed [(0, 6), (8, 19), (7, 7), (20, 21)] [7] (by kernel_rfl) ?_
      repeat (first | refine wp_load (ld_of hb rfl) ?_)
      refine wp_callE (over_c M l rl pl ql k v _ hM hl hrl (by omega)) ?_
      rintro _ h2 ⟨p2, rfl, hc2, ht2⟩
      refine ⟨hc2, ?_⟩
      refine wp_callN (over_c M (.node l k v rl) rr p2 qr rk rv h2 (hM.chg hc2) ht2 (hrr.ext hc2) (by simp only [Tr.size]; omega)) ?_
      rintro _ h3 ⟨p3, rfl, hc3, ht3⟩
      refine ⟨hc3, wp_done ⟨rfl, p3, rfl, hc1.trans (hc2.trans hc3), ?_⟩⟩
      simpa only [bal, hli, htu, if_true] using ht3
    · have htu : turned rl rr = false := h2
      obtain ⟨ml, mk, mv, mr, rfl⟩ := turned_node htu
      obtain ⟨bm, qml, qmr, rfl, hbmM, hbm, hml, hmr⟩ := hrl
      simp only [Tr.size] at hs
      repeat (first | refine wp_load (ld_of hb rfl) ?_)
      refine wp_ord layOk mixed [(0, 6), (8, 31), (7, 7), (32, 34)] [7, 32] (by kernel_rfl) ?_
      repeat (first | refine wp_load (ld_of hbm rfl) ?_ | refine wp_load (ld_of hb rfl) ?_)
      refine wp_callE (over_c M l ml pl qml k v _ hM hl hml (by omega)) ?_
      rintro _ h2 ⟨p2, rfl, hc2, ht2⟩
      refine ⟨hc2, ?_⟩
      refine wp_callE (over_c M mr rr qmr qr rk rv h2 (hM.chg hc2) (hmr.ext hc2) (hrr.ext hc2) (by omega)) ?_
      rintro _ h3 ⟨p3, rfl, hc3, ht3⟩
      refine ⟨hc3, ?_⟩
      refine wp_callN (over_c M (.node l k v ml) (.node mr rk rv rr) p2 p3 mk mv h3 ((hM.chg hc2).chg hc3) (ht2.ext hc3) ht3 (by simp only [Tr.size]; omega)) ?_
      rintro _ h4 ⟨p4, rfl, hc4, ht4⟩
      refine ⟨hc4, wp_done ⟨rfl, p4, rfl, hc1.trans (hc2.trans (hc3.trans hc4)), ?_⟩⟩
      simpa only [bal, hli, htu, if_true, Bool.false_eq_true, if_false] using ht4
  · have hli : light l r = true := by simpa [light] using h1
    refine wp_call (light_c M r l pr pl _ hr hl (by omega) (by omega)) ?_
    rintro _ _ ⟨rfl, rfl⟩
    refine wp_br (fun h1' => ?_) (fun h1' => ?_)
    · have hri : light r l = false := by simpa [light] using h1'
      obtain ⟨ll, lk, lv, lr, rfl⟩ := light_node hri
      obtain ⟨b, ql, qr, rfl, hbM, hb, hll, hlr⟩ := hl
      simp only [Tr.size] at hs
      refine wp_ord layOk mixed [(0, 8)] [] (by kernel_rfl) ?_
      repeat (first | refine wp_load (ld_of hb rfl) ?_)
      refine wp_call (turned_c M lr ll qr ql _ hlr hll (by omega) (by omega)) ?_
      rintro _ _ ⟨rfl, rfl⟩
      refine wp_br (fun h2 => ?_) (fun h2 => ?_)
      · have htu : turned lr ll = true := h2
        refine wp_ord layOk mixed [(0, 21)] [19] (by kernel_rfl) ?_
        repeat (first | refine wp_load (ld_of hb rfl) ?_)
        refine wp_callE (over_c M lr r qr pr k v _ hM hlr hr (by omega)) ?_
        rintro _ h2 ⟨p2, rfl, hc2, ht2⟩
        refine ⟨hc2, ?_⟩
        refine wp_callN (over_c M ll (.node lr k v r) ql p2 lk lv h2 (hM.chg hc2) (hll.ext hc2) ht2 (by simp only [Tr.size]; omega)) ?_
        rintro _ h3 ⟨p3, rfl, hc3, ht3⟩
        refine ⟨hc3, wp_done ⟨rfl, p3, rfl, hc1.trans (hc2.trans hc3), ?_⟩⟩
        simpa only [bal, hli, hri, htu, if_true, Bool.true_eq_false, if_false] using ht3
      · have htu : turned lr ll = false := h2
        obtain ⟨ml, mk, mv, mr, rfl⟩ := turned_node htu
        obtain ⟨bm, qml, qmr, rfl, hbmM, hbm, hml, hmr⟩ := hlr
        simp only [Tr.size] at hs
        repeat (first | refine wp_load (ld_of hb rfl) ?_)
        refine wp_ord layOk mixed [(0, 15), (17, 31), (16, 16), (32, 34)] [16, 32] (by kernel_rfl) ?_
        repeat (first | refine wp_load (ld_of hbm rfl) ?_ | refine wp_load (ld_of hb rfl) ?_)
        refine wp_callE (over_c M ll ml ql qml lk lv _ hM hll hml (by omega)) ?_
        rintro _ h2 ⟨p2, rfl, hc2, ht2⟩
        refine ⟨hc2, ?_⟩
        refine wp_callE (over_c M mr r qmr pr k v h2 (hM.chg hc2) (hmr.ext hc2) (hr.ext hc2) (by omega)) ?_
        rintro _ h3 ⟨p3, rfl, hc3, ht3⟩
        refine ⟨hc3, ?_⟩
        refine wp_callN (over_c M (.node ll lk lv ml) (.node mr k v r) p2 p3 mk mv h3 ((hM.chg hc2).chg hc3) (ht2.ext hc3) ht3 (by simp only [Tr.size]; omega)) ?_
        rintro _ h4 ⟨p4, rfl, hc4, ht4⟩
        refine ⟨hc4, wp_done ⟨rfl, p4, rfl, hc1.trans (hc2.trans (hc3.trans hc4)), ?_⟩⟩
        simpa only [bal, hli, hri, htu, if_true, Bool.true_eq_false, Bool.false_eq_true, if_false] using ht4
    · have hri : light r l = true := by simpa [light] using h1'
      refine wp_callN (over_c M l r pl pr k v _ hM hl hr hs) ?_
      rintro _ h3 ⟨p3, rfl, hc3, ht3⟩
      refine ⟨hc3, wp_done ⟨rfl, p3, rfl, hc1.trans hc3, ?_⟩⟩
      simpa only [bal, hli, hri, Bool.true_eq_false, if_false] using ht3
theorem put_c (M : List Nat) (k : ByteArray) (v : Nat) (t : Tr ByteArray Nat) : ∀ (p : Option Addr) (h : Hp), Bd M h → At M h t p → t.size < 900000 → Call c Tryz.prog 218 #[.pointer p, .string k, Value.pointer (some ⟨v, 0, none⟩)] h fun x h' => ∃ p', x = .pointer p' ∧ Chg [] h h' ∧ At M h' (putT ltS k v t) p' := by
  induction t with
  | leaf =>
    intro p h hM ht hs
    obtain rfl := ht
    refine call_of layOk 78 Tryz.func218 Tryz.ntmps218 rfl rfl rfl rfl ?_
    have hc1 := Chg.refl [] h
    refine wp_brT rfl ?_
    refine wp_callN (over_c M .leaf .leaf none none k v _ hM rfl rfl (by simp [Tr.size])) ?_
    rintro _ h3 ⟨p3, rfl, hc3, ht3⟩
    exact ⟨hc3, wp_done ⟨rfl, p3, rfl, hc1.trans hc3, ht3⟩⟩
  | node l a b r ihl ihr =>
    intro p h hM ht hs
    simp only [Tr.size] at hs
    obtain ⟨bb, ql, qr, rfl, hbM, hb, hl, hr⟩ := ht
    refine call_of layOk 78 Tryz.func218 Tryz.ntmps218 rfl rfl rfl rfl ?_
    have hc1 := Chg.refl [] h
    refine wp_brF rfl ?_
    refine wp_load (ld_of hb rfl) ?_
    refine wp_br (fun h1 => ?_) (fun h1 => ?_)
    · have hk : ltS k a = true := h1
      refine wp_ord layOk mixed [(0, 5), (7, 18), (6, 6), (19, 20)] [6] (by kernel_rfl) ?_
      repeat (first | refine wp_load (ld_of hb rfl) ?_)
      refine wp_callE (ihl ql _ hM hl (by omega)) ?_
      rintro _ h2 ⟨p2, rfl, hc2, ht2⟩
      refine ⟨hc2, ?_⟩
      refine wp_callN (bal_c M (putT ltS k v l) r p2 qr a b h2 (hM.chg hc2) ht2 (hr.ext hc2) (by have := size_putT ltS k v l; omega)) ?_
      rintro _ h3 ⟨p3, rfl, hc3, ht3⟩
      refine ⟨hc3, wp_done ⟨rfl, p3, rfl, hc1.trans (hc2.trans hc3), ?_⟩⟩
      simpa only [putT, hk, if_true] using ht3
    · have hk : ltS k a = false := h1
      refine wp_load (ld_of hb rfl) ?_
      refine wp_br (fun h2 => ?_) (fun h2 => ?_)
      · have hk2 : ltS a k = true := h2
        refine wp_ord layOk mixed [(0, 20)] [18] (by kernel_rfl) ?_
        repeat (first | refine wp_load (ld_of hb rfl) ?_)
        refine wp_callE (ihr qr _ hM hr (by omega)) ?_
        rintro _ h2 ⟨p2, rfl, hc2, ht2⟩
        refine ⟨hc2, ?_⟩
        refine wp_callN (bal_c M l (putT ltS k v r) ql p2 a b h2 (hM.chg hc2) (hl.ext hc2) ht2 (by have := size_putT ltS k v r; omega)) ?_
        rintro _ h3 ⟨p3, rfl, hc3, ht3⟩
        refine ⟨hc3, wp_done ⟨rfl, p3, rfl, hc1.trans (hc2.trans hc3), ?_⟩⟩
        simpa only [putT, hk, hk2, if_true, Bool.false_eq_true, if_false] using ht3
      · have hk2 : ltS a k = false := h2
        refine wp_ord layOk mixed [(0, 11)] [] (by kernel_rfl) ?_
        repeat (first | refine wp_load (ld_of hb rfl) ?_)
        refine wp_callN (over_c M l r ql qr k v _ hM hl hr (by omega)) ?_
        rintro _ h3 ⟨p3, rfl, hc3, ht3⟩
        refine ⟨hc3, wp_done ⟨rfl, p3, rfl, hc1.trans hc3, ?_⟩⟩
        simpa only [putT, hk, hk2, Bool.false_eq_true, if_false] using ht3
theorem find_c (M : List Nat) (k : ByteArray) (t : Tr ByteArray Nat) (p : Option Addr) (h : Hp) (ht : At M h t p) : Call c Tryz.prog 126 #[.agg #[.pointer p], .string k] h fun x h' => ∃ p', x = .pointer p' ∧ Chg [] h h' ∧ At M h' (findT ltS eqS k t) p' := by
  refine call_of layOk 33 Tryz.func126 Tryz.ntmps126 rfl rfl rfl rfl ?_
  refine wp_new ?_
  intro bm h1 hN1
  have hc1 := hN1.chg []
  refine wp_load (ld_of hN1.here rfl) ?_
  refine wp_loopG layOk [5] 8 31 rfl (fun j vals h' => ∃ t' q, vals = [.pointer q] ∧ h' = h1 ∧ At M h1 t' q ∧ findT ltS eqS k t' = findT ltS eqS k t ∧ j = t'.size) t.size ⟨t, p, rfl, rfl, ht.ext hc1, rfl, rfl⟩ ?_
  rintro j g vals h' - ⟨t', q, rfl, rfl, ht', hf, rfl⟩
  cases t' with
  | leaf =>
    obtain rfl := ht'
    repeat refine wp_brF rfl ?_
    refine wp_done ?_
    show X.wp _ _ _ _ _ _ _
    exact wp_done ⟨rfl, _, rfl, hc1, by rw [← hf]; rfl⟩
  | node l a b r =>
    obtain ⟨bb, ql, qr, rfl, hbM, hb, hl, hr⟩ := id ht'
    repeat (first | refine wp_brT rfl ?_ | refine wp_load (ld_of hb rfl) ?_)
    refine wp_br (fun h1 => ?_) (fun h1 => ?_)
    · have he : eqS a k = false := by simpa [eqS] using h1
      refine wp_load (ld_of hb rfl) ?_
      refine wp_br (fun h2 => ?_) (fun h2 => ?_)
      · refine wp_load (ld_of hb rfl) ?_
        have hk : ltS k a = true := h2
        refine wp_done ⟨l.size, by simp only [Tr.size]; omega, l, ql, rfl, rfl, hl, ?_, rfl⟩
        rw [← hf]; simp only [findT, he, hk, Bool.false_eq_true, if_false, if_true]
      · refine wp_load (ld_of hb rfl) ?_
        have hk : ltS k a = false := h2
        refine wp_done ⟨r.size, by simp only [Tr.size]; omega, r, qr, rfl, rfl, hr, ?_, rfl⟩
        rw [← hf]; simp only [findT, he, hk, Bool.false_eq_true, if_false]
    · have he : eqS a k = true := by simpa [eqS] using h1
      refine wp_done ?_
      show X.wp _ _ _ _ _ _ _
      refine wp_done ⟨rfl, _, rfl, hc1, ?_⟩
      rw [← hf]; simpa only [findT, he, if_true] using ht'
end Go.Xe.SL
namespace Go.Xe.SL
open Go Go.Proofs
set_option maxRecDepth 20000
variable {c : World}
abbrev Mp (M : List Nat) (h : Hp) := MapAt (K := ByteArray) (V := Nat) 220 ekS elPtr ltS M h
def toldV : Tr ByteArray Nat → Value
  | .leaf => .tuple #[Value.string ⟨#[]⟩, Value.pointer none, .bool false]
  | .node _ k v _ => .tuple #[.string k, vPtr v, .bool true]
theorem told_c (M) (t : Tr ByteArray Nat) (p : Option Addr) (h : Hp) (ht : At M h t p) : Call c Tryz.prog 125 #[.pointer p] h fun v h' => v = toldV t ∧ Chg [] h h' := by
  refine call_of layOk 17 Tryz.func125 Tryz.ntmps125 rfl rfl rfl rfl ?_
  cases t with
  | leaf =>
    obtain rfl := ht
    exact wp_brT rfl (wp_done ⟨rfl, rfl, Chg.refl _ _⟩)
  | node l k v r =>
    obtain ⟨b, pl, pr, rfl, hS, hb, hl, hr⟩ := ht
    refine wp_brF rfl ?_
    refine wp_ord layOk mixed [(0, 10)] [] (by kernel_rfl) ?_
    refine wp_load (ld_of hb rfl) ?_
    refine wp_load (ld_of hb rfl) ?_
    exact wp_done ⟨rfl, rfl, Chg.refl _ _⟩
def getV (k : ByteArray) (xs : List (ByteArray × Nat)) : Value := match getL eqS k xs with
  | none => .tuple #[Value.pointer none, .bool false]
  | some v => .tuple #[vPtr v, .bool true]
theorem get_c (M) (xs : List (ByteArray × Nat)) (k : ByteArray) (p : Option Addr) (h : Hp) (hm : Mp M h p xs) : Call c Tryz.prog 82 #[.agg #[.pointer p], .string k] h fun v h' => v = getV k xs ∧ Chg [] h h' := by
  obtain ⟨t, ht, rfl, hs⟩ := hm
  refine call_of layOk 19 Tryz.func82 Tryz.ntmps82 rfl rfl rfl rfl ?_
  refine wp_new ?_
  intro bm h1 hN1
  have hc1 := hN1.chg []
  have hc2 := hc1
  refine wp_load (ld_of hN1.here rfl) ?_
  refine wp_call (find_c M k t p _ (ht.ext hc2)) ?_
  rintro _ h3 ⟨q, rfl, hc3, hq⟩
  refine wp_call (told_c M _ q _ hq) ?_
  rintro _ h4 ⟨rfl, hc4⟩
  have hf := findT_get loS k t hs
  generalize findT ltS eqS k t = f at hf
  cases f with
  | leaf =>
    exact wp_done ⟨rfl, (by unfold getV; rw [hf]; rfl), hc2.trans (hc3.trans hc4)⟩
  | node l a b r =>
    exact wp_done ⟨rfl, (by unfold getV; rw [hf.2]; rfl), hc2.trans (hc3.trans hc4)⟩
theorem mput_c (M : List Nat) (xs : List (ByteArray × Nat)) (k : ByteArray) (v : Nat) (p : Option Addr) (h : Hp) (hM : Bd M h) (hm : Mp M h p xs) (hz : xs.length < 900000) : Call c Tryz.prog 174 #[.agg #[.pointer p], .string k, Value.pointer (some ⟨v, 0, none⟩)] h fun x h' => ∃ q, x = .agg #[.pointer q] ∧ Chg [] h h' ∧ Mp M h' q (insL ltS k v xs) := by
  obtain ⟨t, ht, rfl, hs⟩ := hm
  rw [Tr.length_toL] at hz
  refine call_ofM layOk 13 Tryz.func174 Tryz.ntmps174 rfl rfl rfl ?_
  refine wp_new ?_
  intro bm h1 hN1
  have hc1 := hN1.chg []
  refine wp_new ?_
  intro bo h3 hN3
  have hc3 := hc1.trans (hN3.chg [])
  refine wp_load (ld_of (hN3.of hN1.here) rfl) ?_
  refine wp_call (put_c M k v t p _ (hM.chg hc3) (ht.ext hc3) hz) ?_
  rintro _ h4 ⟨q, rfl, hc4, hq⟩
  have ho := hc4.of hN3.here (by simp)
  refine wp_store ho (by rfl) ?_
  intro h5 hU5
  have hn : h.size ≤ bo := Nat.le_trans hc1.size hN3.le
  have hc5 := hU5.chgGe (hc3.trans hc4) hn
  refine wp_done (finM_at [_] rfl ⟨⟨_, _, _, rfl, rfl, ld_of hU5.here rfl⟩, trivial⟩ ⟨q, rfl, hc5, putT ltS k v t, ?_, toL_putT loS k v t hs, sorted_insL loS k v _ hs⟩)
  exact TreeAt.wr hU5 ho (by decide) hq
theorem mlen_c (M) (xs : List (ByteArray × Nat)) (p : Option Addr) (h : Hp) (hm : Mp M h p xs) : Call c Tryz.prog 173 #[.agg #[.pointer p]] h fun v h' => v = .int .i64 xs.length ∧ Chg [] h h' := by
  obtain ⟨t, ht, rfl, hs⟩ := hm
  rw [Tr.length_toL]
  refine call_of layOk 6 Tryz.func173 Tryz.ntmps173 rfl rfl rfl rfl ?_
  refine wp_new ?_
  intro bm h1 hN1
  have hc1 := hN1.chg []
  refine wp_load (ld_of hN1.here rfl) ?_
  refine wp_call (len_c M t p _ (ht.ext hc1)) ?_
  rintro _ _ ⟨rfl, rfl⟩
  exact wp_done ⟨rfl, rfl, hc1⟩
end Go.Xe.SL
namespace Go.Xe.TI
open Go Go.Proofs
set_option maxRecDepth 20000
variable {c : World}
abbrev At (M : List Nat) (h : Hp) := TreeAt (K := Int) (V := TotR) 269 ekI elTot M h
theorem len_c (M) (t : Tr Int TotR) (p : Option Addr) (h : Hp) (ht : At M h t p) : Call c Tryz.prog 280 #[.pointer p] h fun v h' => v = .int .i64 t.size ∧ h' = h := by
  refine call_of layOk 9 Tryz.func280 Tryz.ntmps280 rfl rfl rfl rfl ?_
  cases t with
  | leaf =>
    obtain rfl := ht
    exact wp_brT rfl (wp_done ⟨rfl, rfl, rfl⟩)
  | node l k v r =>
    obtain ⟨b, pl, pr, rfl, hS, hb, hl, hr⟩ := ht
    exact wp_brF rfl (wp_load (ld_of hb rfl) (wp_done ⟨rfl, rfl, rfl⟩))
theorem weight_c (M) (t : Tr Int TotR) (p : Option Addr) (h : Hp) (ht : At M h t p) (hs : t.size < 1000000) : Call c Tryz.prog 291 #[.pointer p] h fun v h' => v = .int .i64 (t.size + 1) ∧ h' = h := by
  refine call_of layOk 6 Tryz.func291 Tryz.ntmps291 rfl rfl rfl rfl ?_
  refine wp_call (len_c M t p h ht) ?_
  rintro _ _ ⟨rfl, rfl⟩
  exact wp_done ⟨rfl, congrArg (Value.int .i64) (w64 (by omega) (by omega)), rfl⟩
theorem light_c (M) (t t' : Tr Int TotR) (p p' : Option Addr) (h : Hp) (ht : At M h t p) (ht' : At M h t' p') (hs : t.size < 1000000) (hs' : t'.size < 1000000) : Call c Tryz.prog 281 #[.pointer p, .pointer p'] h fun v h' => v = .bool (decide (t'.size + 1 ≤ 3 * (t.size + 1))) ∧ h' = h := by
  refine call_of layOk 11 Tryz.func281 Tryz.ntmps281 rfl rfl rfl rfl ?_
  refine wp_call (weight_c M t' p' h ht' hs') ?_
  rintro _ _ ⟨rfl, rfl⟩
  refine wp_call (weight_c M t p _ ht hs) ?_
  rintro _ _ ⟨rfl, rfl⟩
  refine wp_done ⟨rfl, congrArg Value.bool ?_, rfl⟩
  rw [w64 (by omega) (by omega)]
  exact decide_eq_decide.2 (by omega)
theorem turned_c (M) (t t' : Tr Int TotR) (p p' : Option Addr) (h : Hp) (ht : At M h t p) (ht' : At M h t' p') (hs : t.size < 1000000) (hs' : t'.size < 1000000) : Call c Tryz.prog 282 #[.pointer p, .pointer p'] h fun v h' => v = .bool (decide (t.size + 1 < 2 * (t'.size + 1))) ∧ h' = h := by
  refine call_of layOk 11 Tryz.func282 Tryz.ntmps282 rfl rfl rfl rfl ?_
  refine wp_call (weight_c M t p h ht hs) ?_
  rintro _ _ ⟨rfl, rfl⟩
  refine wp_call (weight_c M t' p' _ ht' hs') ?_
  rintro _ _ ⟨rfl, rfl⟩
  refine wp_done ⟨rfl, congrArg Value.bool ?_, rfl⟩
  rw [w64 (by omega) (by omega)]
  exact decide_eq_decide.2 (by omega)
theorem over_c (M : List Nat) (l r : Tr Int TotR) (pl pr : Option Addr) (k : Int) (v : TotR) (h : Hp) (hM : Bd M h) (hl : At M h l pl) (hr : At M h r pr) (hs : l.size + r.size < 1000000) : Call c Tryz.prog 258 #[.pointer pl, .int .i64 k, vTot v, .pointer pr] h fun x h' => ∃ p, x = .pointer p ∧ Chg [] h h' ∧ At M h' (.node l k v r) p := by
  refine call_of layOk 21 Tryz.func258 Tryz.ntmps258 rfl rfl rfl rfl ?_
  refine wp_new ?_
  intro bv h1 hN1
  have hc1 := hN1.chg []
  have hM1 := hM.chg hc1
  have hbv := hN1.here
  have hl1 := hl.ext hc1
  have hr1 := hr.ext hc1
  refine wp_ord layOk mixed [(0, 4), (6, 6), (5, 5), (7, 12)] [5, 7] (by kernel_rfl) ?_
  refine wp_load (ld_of hbv rfl) ?_
  refine wp_callE (len_c M l pl _ hl1) ?_
  rintro _ _ ⟨rfl, rfl⟩
  refine ⟨Chg.refl _ _, ?_⟩
  refine wp_callE (len_c M r pr _ hr1) ?_
  rintro _ _ ⟨rfl, rfl⟩
  refine ⟨Chg.refl _ _, ?_⟩
  refine wp_new ?_
  intro b h' hN
  refine wp_done ⟨rfl, _, rfl, hc1.trans (hN.chg _), b, pl, pr, rfl, hM1.fresh hN, ?_, hl1.ext (hN.chg _), hr1.ext (hN.chg _)⟩
  exact hN.here.trans (congrArg (fun z => some (Obj.cells ((ekI k ++ elTot v ++ [Value.pointer pl, Value.pointer pr, z]).toArray) 269 (0, 0))) (congrArg (Value.int .i64) (size_w hs)))
theorem bal_c (M : List Nat) (l r : Tr Int TotR) (pl pr : Option Addr) (k : Int) (v : TotR) (h : Hp) (hM : Bd M h) (hl : At M h l pl) (hr : At M h r pr) (hs : l.size + r.size < 1000000) : Call c Tryz.prog 259 #[.pointer pl, .int .i64 k, vTot v, .pointer pr] h fun x h' => ∃ p, x = .pointer p ∧ Chg [] h h' ∧ At M h' (bal l k v r) p := by
  refine call_of layOk 162 Tryz.func259 Tryz.ntmps259 rfl rfl rfl rfl ?_
  refine wp_new ?_
  intro bv h1 hN1
  have hc1 := hN1.chg []
  have hM1 := hM.chg hc1
  have hbv := hN1.here
  have hl := hl.ext hc1
  have hr := hr.ext hc1
  have hM := hM1
  refine wp_call (light_c M l r pl pr _ hl hr (by omega) (by omega)) ?_
  rintro _ _ ⟨rfl, rfl⟩
  refine wp_br (fun h1 => ?_) (fun h1 => ?_)
  · have hli : light l r = false := by simpa [light] using h1
    obtain ⟨rl, rk, rv, rr, rfl⟩ := light_node hli
    obtain ⟨b, ql, qr, rfl, hbM, hb, hrl, hrr⟩ := hr
    simp only [Tr.size] at hs
    refine wp_ord layOk mixed [(0, 8)] [] (by kernel_rfl) ?_
    repeat (first | refine wp_load (ld_of hb rfl) ?_)
    refine wp_call (turned_c M rl rr ql qr _ hrl hrr (by omega) (by omega)) ?_
    rintro _ _ ⟨rfl, rfl⟩
    refine wp_br (fun h2 => ?_) (fun h2 => ?_)
    · have htu : turned rl rr = true := h2
      refine wp_ord layOk mixed [(0, 6), (8, 19), (7, 7), (20, 21)] [7] (by kernel_rfl) ?_
      repeat (first | refine wp_load (ld_of hb rfl) ?_ | refine wp_load (ld_of hbv rfl) ?_)
      refine wp_callE (over_c M l rl pl ql k v _ hM hl hrl (by omega)) ?_
      rintro _ h2 ⟨p2, rfl, hc2, ht2⟩
      refine ⟨hc2, ?_⟩
      refine wp_callN (over_c M (.node l k v rl) rr p2 qr rk rv h2 (hM.chg hc2) ht2 (hrr.ext hc2) (by simp only [Tr.size]; omega)) ?_
      rintro _ h3 ⟨p3, rfl, hc3, ht3⟩
      refine ⟨hc3, wp_done ⟨rfl, p3, rfl, hc1.trans (hc2.trans hc3), ?_⟩⟩
      simpa only [bal, hli, htu, if_true] using ht3
    · have htu : turned rl rr = false := h2
      obtain ⟨ml, mk, mv, mr, rfl⟩ := turned_node htu
      obtain ⟨bm, qml, qmr, rfl, hbmM, hbm, hml, hmr⟩ := hrl
      simp only [Tr.size] at hs
      repeat (first | refine wp_load (ld_of hb rfl) ?_)
      refine wp_ord layOk mixed [(0, 6), (8, 31), (7, 7), (32, 34)] [7, 32] (by kernel_rfl) ?_
      repeat (first | refine wp_load (ld_of hbm rfl) ?_ | refine wp_load (ld_of hb rfl) ?_ | refine wp_load (ld_of hbv rfl) ?_)
      refine wp_callE (over_c M l ml pl qml k v _ hM hl hml (by omega)) ?_
      rintro _ h2 ⟨p2, rfl, hc2, ht2⟩
      refine ⟨hc2, ?_⟩
      refine wp_callE (over_c M mr rr qmr qr rk rv h2 (hM.chg hc2) (hmr.ext hc2) (hrr.ext hc2) (by omega)) ?_
      rintro _ h3 ⟨p3, rfl, hc3, ht3⟩
      refine ⟨hc3, ?_⟩
      refine wp_callN (over_c M (.node l k v ml) (.node mr rk rv rr) p2 p3 mk mv h3 ((hM.chg hc2).chg hc3) (ht2.ext hc3) ht3 (by simp only [Tr.size]; omega)) ?_
      rintro _ h4 ⟨p4, rfl, hc4, ht4⟩
      refine ⟨hc4, wp_done ⟨rfl, p4, rfl, hc1.trans (hc2.trans (hc3.trans hc4)), ?_⟩⟩
      simpa only [bal, hli, htu, if_true, Bool.false_eq_true, if_false] using ht4
  · have hli : light l r = true := by simpa [light] using h1
    refine wp_call (light_c M r l pr pl _ hr hl (by omega) (by omega)) ?_
    rintro _ _ ⟨rfl, rfl⟩
    refine wp_br (fun h1' => ?_) (fun h1' => ?_)
    · have hri : light r l = false := by simpa [light] using h1'
      obtain ⟨ll, lk, lv, lr, rfl⟩ := light_node hri
      obtain ⟨b, ql, qr, rfl, hbM, hb, hll, hlr⟩ := hl
      simp only [Tr.size] at hs
      refine wp_ord layOk mixed [(0, 8)] [] (by kernel_rfl) ?_
      repeat (first | refine wp_load (ld_of hb rfl) ?_)
      refine wp_call (turned_c M lr ll qr ql _ hlr hll (by omega) (by omega)) ?_
      rintro _ _ ⟨rfl, rfl⟩
      refine wp_br (fun h2 => ?_) (fun h2 => ?_)
      · have htu : turned lr ll = true := h2
        refine wp_ord layOk mixed [(0, 21)] [19] (by kernel_rfl) ?_
        repeat (first | refine wp_load (ld_of hb rfl) ?_ | refine wp_load (ld_of hbv rfl) ?_)
        refine wp_callE (over_c M lr r qr pr k v _ hM hlr hr (by omega)) ?_
        rintro _ h2 ⟨p2, rfl, hc2, ht2⟩
        refine ⟨hc2, ?_⟩
        refine wp_callN (over_c M ll (.node lr k v r) ql p2 lk lv h2 (hM.chg hc2) (hll.ext hc2) ht2 (by simp only [Tr.size]; omega)) ?_
        rintro _ h3 ⟨p3, rfl, hc3, ht3⟩
        refine ⟨hc3, wp_done ⟨rfl, p3, rfl, hc1.trans (hc2.trans hc3), ?_⟩⟩
        simpa only [bal, hli, hri, htu, if_true, Bool.true_eq_false, if_false] using ht3
      · have htu : turned lr ll = false := h2
        obtain ⟨ml, mk, mv, mr, rfl⟩ := turned_node htu
        obtain ⟨bm, qml, qmr, rfl, hbmM, hbm, hml, hmr⟩ := hlr
        simp only [Tr.size] at hs
        repeat (first | refine wp_load (ld_of hb rfl) ?_)
        refine wp_ord layOk mixed [(0, 15), (17, 31), (16, 16), (32, 34)] [16, 32] (by kernel_rfl) ?_
        repeat (first | refine wp_load (ld_of hbm rfl) ?_ | refine wp_load (ld_of hb rfl) ?_ | refine wp_load (ld_of hbv rfl) ?_)
        refine wp_callE (over_c M ll ml ql qml lk lv _ hM hll hml (by omega)) ?_
        rintro _ h2 ⟨p2, rfl, hc2, ht2⟩
        refine ⟨hc2, ?_⟩
        refine wp_callE (over_c M mr r qmr pr k v h2 (hM.chg hc2) (hmr.ext hc2) (hr.ext hc2) (by omega)) ?_
        rintro _ h3 ⟨p3, rfl, hc3, ht3⟩
        refine ⟨hc3, ?_⟩
        refine wp_callN (over_c M (.node ll lk lv ml) (.node mr k v r) p2 p3 mk mv h3 ((hM.chg hc2).chg hc3) (ht2.ext hc3) ht3 (by simp only [Tr.size]; omega)) ?_
        rintro _ h4 ⟨p4, rfl, hc4, ht4⟩
        refine ⟨hc4, wp_done ⟨rfl, p4, rfl, hc1.trans (hc2.trans (hc3.trans hc4)), ?_⟩⟩
        simpa only [bal, hli, hri, htu, if_true, Bool.true_eq_false, Bool.false_eq_true, if_false] using ht4
    · have hri : light r l = true := by simpa [light] using h1'
      repeat (first | refine wp_load (ld_of hbv rfl) ?_)
      refine wp_callN (over_c M l r pl pr k v _ hM hl hr hs) ?_
      rintro _ h3 ⟨p3, rfl, hc3, ht3⟩
      refine ⟨hc3, wp_done ⟨rfl, p3, rfl, hc1.trans hc3, ?_⟩⟩
      simpa only [bal, hli, hri, Bool.true_eq_false, if_false] using ht3
theorem put_c (M : List Nat) (k : Int) (v : TotR) (t : Tr Int TotR) : ∀ (p : Option Addr) (h : Hp), Bd M h → At M h t p → t.size < 900000 → Call c Tryz.prog 232 #[.pointer p, .int .i64 k, vTot v] h fun x h' => ∃ p', x = .pointer p' ∧ Chg [] h h' ∧ At M h' (putT ltI k v t) p' := by
  induction t with
  | leaf =>
    intro p h hM ht hs
    obtain rfl := ht
    refine call_of layOk 78 Tryz.func232 Tryz.ntmps232 rfl rfl rfl rfl ?_
    refine wp_new ?_
    intro bv h1 hN1
    have hc1 := hN1.chg []
    have hM1 := hM.chg hc1
    have hbv := hN1.here
    have hM := hM1
    refine wp_brT rfl ?_
    repeat (first | refine wp_load (ld_of hbv rfl) ?_)
    refine wp_callN (over_c M .leaf .leaf none none k v _ hM rfl rfl (by simp [Tr.size])) ?_
    rintro _ h3 ⟨p3, rfl, hc3, ht3⟩
    exact ⟨hc3, wp_done ⟨rfl, p3, rfl, hc1.trans hc3, ht3⟩⟩
  | node l a b r ihl ihr =>
    intro p h hM ht hs
    simp only [Tr.size] at hs
    obtain ⟨bb, ql, qr, rfl, hbM, hb, hl, hr⟩ := ht
    refine call_of layOk 78 Tryz.func232 Tryz.ntmps232 rfl rfl rfl rfl ?_
    refine wp_new ?_
    intro bv h1 hN1
    have hc1 := hN1.chg []
    have hM1 := hM.chg hc1
    have hbv := hN1.here
    have hM := hM1
    have hb := hc1.of hb (by simp)
    have hl := hl.ext hc1
    have hr := hr.ext hc1
    refine wp_brF rfl ?_
    refine wp_load (ld_of hb rfl) ?_
    refine wp_br (fun h1 => ?_) (fun h1 => ?_)
    · have hk : ltI k a = true := h1
      refine wp_ord layOk mixed [(0, 5), (7, 18), (6, 6), (19, 20)] [6] (by kernel_rfl) ?_
      repeat (first | refine wp_load (ld_of hb rfl) ?_ | refine wp_load (ld_of hbv rfl) ?_)
      refine wp_callE (ihl ql _ hM hl (by omega)) ?_
      rintro _ h2 ⟨p2, rfl, hc2, ht2⟩
      refine ⟨hc2, ?_⟩
      refine wp_callN (bal_c M (putT ltI k v l) r p2 qr a b h2 (hM.chg hc2) ht2 (hr.ext hc2) (by have := size_putT ltI k v l; omega)) ?_
      rintro _ h3 ⟨p3, rfl, hc3, ht3⟩
      refine ⟨hc3, wp_done ⟨rfl, p3, rfl, hc1.trans (hc2.trans hc3), ?_⟩⟩
      simpa only [putT, hk, if_true] using ht3
    · have hk : ltI k a = false := h1
      refine wp_load (ld_of hb rfl) ?_
      refine wp_br (fun h2 => ?_) (fun h2 => ?_)
      · have hk2 : ltI a k = true := h2
        refine wp_ord layOk mixed [(0, 20)] [18] (by kernel_rfl) ?_
        repeat (first | refine wp_load (ld_of hb rfl) ?_ | refine wp_load (ld_of hbv rfl) ?_)
        refine wp_callE (ihr qr _ hM hr (by omega)) ?_
        rintro _ h2 ⟨p2, rfl, hc2, ht2⟩
        refine ⟨hc2, ?_⟩
        refine wp_callN (bal_c M l (putT ltI k v r) ql p2 a b h2 (hM.chg hc2) (hl.ext hc2) ht2 (by have := size_putT ltI k v r; omega)) ?_
        rintro _ h3 ⟨p3, rfl, hc3, ht3⟩
        refine ⟨hc3, wp_done ⟨rfl, p3, rfl, hc1.trans (hc2.trans hc3), ?_⟩⟩
        simpa only [putT, hk, hk2, if_true, Bool.false_eq_true, if_false] using ht3
      · have hk2 : ltI a k = false := h2
        refine wp_ord layOk mixed [(0, 11)] [] (by kernel_rfl) ?_
        repeat (first | refine wp_load (ld_of hb rfl) ?_ | refine wp_load (ld_of hbv rfl) ?_)
        refine wp_callN (over_c M l r ql qr k v _ hM hl hr (by omega)) ?_
        rintro _ h3 ⟨p3, rfl, hc3, ht3⟩
        refine ⟨hc3, wp_done ⟨rfl, p3, rfl, hc1.trans hc3, ?_⟩⟩
        simpa only [putT, hk, hk2, Bool.false_eq_true, if_false] using ht3
theorem find_c (M : List Nat) (k : Int) (t : Tr Int TotR) (p : Option Addr) (h : Hp) (ht : At M h t p) : Call c Tryz.prog 139 #[.agg #[.pointer p], .int .i64 k] h fun x h' => ∃ p', x = .pointer p' ∧ Chg [] h h' ∧ At M h' (findT ltI eqI k t) p' := by
  refine call_of layOk 33 Tryz.func139 Tryz.ntmps139 rfl rfl rfl rfl ?_
  refine wp_new ?_
  intro bm h1 hN1
  have hc1 := hN1.chg []
  refine wp_load (ld_of hN1.here rfl) ?_
  refine wp_loopG layOk [5] 8 31 rfl (fun j vals h' => ∃ t' q, vals = [.pointer q] ∧ h' = h1 ∧ At M h1 t' q ∧ findT ltI eqI k t' = findT ltI eqI k t ∧ j = t'.size) t.size ⟨t, p, rfl, rfl, ht.ext hc1, rfl, rfl⟩ ?_
  rintro j g vals h' - ⟨t', q, rfl, rfl, ht', hf, rfl⟩
  cases t' with
  | leaf =>
    obtain rfl := ht'
    repeat refine wp_brF rfl ?_
    refine wp_done ?_
    show X.wp _ _ _ _ _ _ _
    exact wp_done ⟨rfl, _, rfl, hc1, by rw [← hf]; rfl⟩
  | node l a b r =>
    obtain ⟨bb, ql, qr, rfl, hbM, hb, hl, hr⟩ := id ht'
    repeat (first | refine wp_brT rfl ?_ | refine wp_load (ld_of hb rfl) ?_)
    refine wp_br (fun h1 => ?_) (fun h1 => ?_)
    · have he : eqI a k = false := by simpa [eqI] using h1
      refine wp_load (ld_of hb rfl) ?_
      refine wp_br (fun h2 => ?_) (fun h2 => ?_)
      · refine wp_load (ld_of hb rfl) ?_
        have hk : ltI k a = true := h2
        refine wp_done ⟨l.size, by simp only [Tr.size]; omega, l, ql, rfl, rfl, hl, ?_, rfl⟩
        rw [← hf]; simp only [findT, he, hk, Bool.false_eq_true, if_false, if_true]
      · refine wp_load (ld_of hb rfl) ?_
        have hk : ltI k a = false := h2
        refine wp_done ⟨r.size, by simp only [Tr.size]; omega, r, qr, rfl, rfl, hr, ?_, rfl⟩
        rw [← hf]; simp only [findT, he, hk, Bool.false_eq_true, if_false]
    · have he : eqI a k = true := by simpa [eqI] using h1
      refine wp_done ?_
      show X.wp _ _ _ _ _ _ _
      refine wp_done ⟨rfl, _, rfl, hc1, ?_⟩
      rw [← hf]; simpa only [findT, he, if_true] using ht'
end Go.Xe.TI
namespace Go.Xe.TI
open Go Go.Proofs
set_option maxRecDepth 20000
variable {c : World}
abbrev Mp (M : List Nat) (h : Hp) := MapAt (K := Int) (V := TotR) 269 ekI elTot ltI M h
def toldV : Tr Int TotR → Value
  | .leaf => .tuple #[Value.int .i64 0, zTot, .bool false]
  | .node _ k v _ => .tuple #[.int .i64 k, vTot v, .bool true]
theorem told_c (M) (t : Tr Int TotR) (p : Option Addr) (h : Hp) (ht : At M h t p) : Call c Tryz.prog 138 #[.pointer p] h fun v h' => v = toldV t ∧ Chg [] h h' := by
  refine call_ofM layOk 17 Tryz.func138 Tryz.ntmps138 rfl rfl rfl ?_
  refine wp_new ?_
  intro bv h1 hN1
  have hc1 := hN1.chg []
  have ht := ht.ext hc1
  cases t with
  | leaf =>
    obtain rfl := ht
    refine wp_brT rfl ?_
    refine wp_ord layOk mixed [(0, 4)] [] (by kernel_rfl) ?_
    refine wp_load (ld_of hN1.here rfl) ?_
    refine wp_store hN1.here (by rfl) ?_
    intro h2 hU
    exact wp_done (finM_at [_, _, _] rfl ⟨rfl, ⟨_, _, _, rfl, rfl, ld_of hU.here rfl⟩, rfl, trivial⟩ ⟨rfl, hU.chgGe hc1 hN1.le⟩)
  | node l k v r =>
    obtain ⟨b, pl, pr, rfl, hS, hb, hl, hr⟩ := ht
    refine wp_brF rfl ?_
    refine wp_ord layOk mixed [(0, 10)] [] (by kernel_rfl) ?_
    refine wp_load (ld_of hb rfl) ?_
    refine wp_load (ld_of hb rfl) ?_
    refine wp_store hN1.here (by rfl) ?_
    intro h2 hU
    exact wp_done (finM_at [_, _, _] rfl ⟨rfl, ⟨_, _, _, rfl, rfl, ld_of hU.here rfl⟩, rfl, trivial⟩ ⟨rfl, hU.chgGe hc1 hN1.le⟩)
def getV (k : Int) (xs : List (Int × TotR)) : Value := match getL eqI k xs with
  | none => .tuple #[zTot, .bool false]
  | some v => .tuple #[vTot v, .bool true]
theorem get_c (M) (xs : List (Int × TotR)) (k : Int) (p : Option Addr) (h : Hp) (hm : Mp M h p xs) : Call c Tryz.prog 101 #[.agg #[.pointer p], .int .i64 k] h fun v h' => v = getV k xs ∧ Chg [] h h' := by
  obtain ⟨t, ht, rfl, hs⟩ := hm
  refine call_ofM layOk 19 Tryz.func101 Tryz.ntmps101 rfl rfl rfl ?_
  refine wp_new ?_
  intro bm h1 hN1
  have hc1 := hN1.chg []
  refine wp_new ?_
  intro bo h2 hN2
  have hc2 := hc1.trans (hN2.chg [])
  refine wp_load (ld_of (hN2.of hN1.here) rfl) ?_
  refine wp_call (find_c M k t p _ (ht.ext hc2)) ?_
  rintro _ h3 ⟨q, rfl, hc3, hq⟩
  refine wp_call (told_c M _ q _ hq) ?_
  rintro _ h4 ⟨rfl, hc4⟩
  have hf := findT_get loI k t hs
  generalize findT ltI eqI k t = f at hf
  cases f with
  | leaf =>
    have ho := hc4.of (hc3.of hN2.here (by simp)) (by simp)
    refine wp_new ?_
    intro bt h5 hN5
    refine wp_store hN5.here (by rfl) ?_
    intro h6 hU6
    refine wp_load (ld_of hU6.here rfl) ?_
    have hne : bo ≠ bt := hN5.ne ho
    refine wp_store (hU6.of (hN5.of ho) hne) (by rfl) ?_
    intro h7 hU7
    have hc6 := hU6.chgGe (h0 := h4) (M := []) (hN5.chg []) hN5.le
    refine wp_done (finM_at [_, _] rfl ⟨⟨_, _, _, rfl, rfl, ld_of hU7.here rfl⟩, rfl, trivial⟩ ⟨?_, ?_⟩)
    · unfold getV; rw [hf]; rfl
    · have := hN2.le
      have := hc1.size
      exact hU7.chgGe (hc2.trans (hc3.trans (hc4.trans hc6))) (by omega)
  | node l a b r =>
    have ho := hc4.of (hc3.of hN2.here (by simp)) (by simp)
    refine wp_new ?_
    intro bt h5 hN5
    refine wp_store hN5.here (by rfl) ?_
    intro h6 hU6
    refine wp_load (ld_of hU6.here rfl) ?_
    have hne : bo ≠ bt := hN5.ne ho
    refine wp_store (hU6.of (hN5.of ho) hne) (by rfl) ?_
    intro h7 hU7
    have hc6 := hU6.chgGe (h0 := h4) (M := []) (hN5.chg []) hN5.le
    refine wp_done (finM_at [_, _] rfl ⟨⟨_, _, _, rfl, rfl, ld_of hU7.here rfl⟩, rfl, trivial⟩ ⟨?_, ?_⟩)
    · unfold getV; rw [hf.2]; rfl
    · have := hN2.le
      have := hc1.size
      exact hU7.chgGe (hc2.trans (hc3.trans (hc4.trans hc6))) (by omega)
theorem mput_c (M : List Nat) (xs : List (Int × TotR)) (k : Int) (v : TotR) (p : Option Addr) (h : Hp) (hM : Bd M h) (hm : Mp M h p xs) (hz : xs.length < 900000) : Call c Tryz.prog 204 #[.agg #[.pointer p], .int .i64 k, vTot v] h fun x h' => ∃ q, x = .agg #[.pointer q] ∧ Chg [] h h' ∧ Mp M h' q (insL ltI k v xs) := by
  obtain ⟨t, ht, rfl, hs⟩ := hm
  rw [Tr.length_toL] at hz
  refine call_ofM layOk 13 Tryz.func204 Tryz.ntmps204 rfl rfl rfl ?_
  refine wp_new ?_
  intro bm h1 hN1
  have hc1 := hN1.chg []
  refine wp_new ?_
  intro bv h2 hN2
  have hc2 := hc1.trans (hN2.chg [])
  refine wp_new ?_
  intro bo h3 hN3
  have hc3 := hc2.trans (hN3.chg [])
  refine wp_load (ld_of (hN3.of (hN2.of hN1.here)) rfl) ?_
  refine wp_load (ld_of (hN3.of hN2.here) rfl) ?_
  refine wp_call (put_c M k v t p _ (hM.chg hc3) (ht.ext hc3) hz) ?_
  rintro _ h4 ⟨q, rfl, hc4, hq⟩
  have ho := hc4.of hN3.here (by simp)
  refine wp_store ho (by rfl) ?_
  intro h5 hU5
  have hn : h.size ≤ bo := Nat.le_trans hc2.size hN3.le
  have hc5 := hU5.chgGe (hc3.trans hc4) hn
  refine wp_done (finM_at [_] rfl ⟨⟨_, _, _, rfl, rfl, ld_of hU5.here rfl⟩, trivial⟩ ⟨q, rfl, hc5, putT ltI k v t, ?_, toL_putT loI k v t hs, sorted_insL loI k v _ hs⟩)
  exact TreeAt.wr hU5 ho (by decide) hq
end Go.Xe.TI
namespace Go.Xe
open Go Go.Proofs

structure KindR where
  k0 : Int
  k1 : Int
  k2 : Int
  k3 : Int
structure BaleR where
  no : Int
  kind : KindR
  grams : Int
  parts : List PartR
  state : Int
  lot : ByteArray
  from_ : List Int
structure LotR where
  name : ByteArray
  bales : List Int
  sent : Bool
/-- where the slices of a bale lie -/
structure BalP where
  pa : Option Addr
  pc : Nat
  fa : Option Addr
  fc : Nat
def elBale (r : BaleR) (p : BalP) : List Value :=
  [.int .i64 r.no, .int .u8 r.kind.k0, .int .u8 r.kind.k1, .int .u8 r.kind.k2, .int .u8 r.kind.k3, .int .i64 r.grams, .slice p.pa r.parts.length p.pc, .int .i64 r.state, .string r.lot, .slice p.fa r.from_.length p.fc]
def vBale (r : BaleR) (p : BalP) : Value := .agg #[.int .i64 r.no, .int .u8 r.kind.k0, .int .u8 r.kind.k1, .int .u8 r.kind.k2, .int .u8 r.kind.k3, .int .i64 r.grams, .slice p.pa r.parts.length p.pc, .int .i64 r.state, .string r.lot, .slice p.fa r.from_.length p.fc]
def zBaleR : BaleR := ⟨0, ⟨0, 0, 0, 0⟩, 0, [], 0, ⟨#[]⟩, []⟩
def zBalP : BalP := ⟨none, 0, none, 0⟩
/-- the slices of a bale's value -/
def BalOk (M : List Nat) (h : Hp) (r : BaleR) (p : BalP) : Prop := PartsAt M h p.pa p.pc r.parts ∧ IntsAt M h p.fa p.fc r.from_
def BaleAt (M : List Nat) (h : Hp) (b : Nat) (r : BaleR) : Prop := ∃ p, b ∉ M ∧ h[b]? = some (.cells (elBale r p).toArray 42 (0, 0)) ∧ BalOk M h r p
def elLot (r : LotR) (a : Option Addr) (cap : Nat) : List Value := [.string r.name, .slice a r.bales.length cap, .bool r.sent]
def LotAt (M : List Nat) (h : Hp) (b : Nat) (r : LotR) : Prop := ∃ a cap, b ∉ M ∧ h[b]? = some (.cells (elLot r a cap).toArray 36 (0, 0)) ∧ IntsAt M h a cap r.bales

/-- keys are the same, values are related -/
def all2 {K β γ : Type} (R : β → γ → Prop) : List (K × β) → List (K × γ) → Prop
  | [], [] => True
  | (a, b) :: ys, (a', c) :: bs => a = a' ∧ R b c ∧ all2 R ys bs
  | _, _ => False

section
variable {K β γ : Type} {R R' : β → γ → Prop}
theorem all2.mono (hR : ∀ b c, R b c → R' b c) : ∀ {ys : List (K × β)} {bs : List (K × γ)}, all2 R ys bs → all2 R' ys bs
  | [], [], _ => trivial
  | (_, _) :: _, (_, _) :: _, ⟨h1, h2, h3⟩ => ⟨h1, hR _ _ h2, all2.mono hR h3⟩
theorem all2.len : ∀ {ys : List (K × β)} {bs : List (K × γ)}, all2 R ys bs → ys.length = bs.length
  | [], [], _ => rfl
  | (_, _) :: _, (_, _) :: _, ⟨_, _, h3⟩ => by simp [all2.len h3]
theorem all2.get (eq : K → K → Bool) (k : K) : ∀ {ys : List (K × β)} {bs : List (K × γ)}, all2 R ys bs →
    (getL eq k ys = none ∧ getL eq k bs = none) ∨ ∃ b c, getL eq k ys = some b ∧ getL eq k bs = some c ∧ R b c
  | [], [], _ => .inl ⟨rfl, rfl⟩
  | (a, b) :: ys, (a', c) :: bs, ⟨h1, h2, h3⟩ => by
    subst h1
    simp only [getL]
    split
    · exact .inr ⟨b, c, rfl, rfl, h2⟩
    · exact all2.get eq k h3
theorem all2.ins (lt : K → K → Bool) (k : K) {b : β} {c : γ} (hbc : R b c) : ∀ {ys : List (K × β)} {bs : List (K × γ)}, all2 R ys bs → all2 R (insL lt k b ys) (insL lt k c bs)
  | [], [], _ => ⟨rfl, hbc, trivial⟩
  | (a, b') :: ys, (a', c') :: bs, ⟨h1, h2, h3⟩ => by
    subst h1
    simp only [insL]
    split
    · exact ⟨rfl, hbc, rfl, h2, h3⟩
    · split
      · exact ⟨rfl, h2, all2.ins lt k hbc h3⟩
      · exact ⟨rfl, hbc, h3⟩
theorem all2.del (eq : K → K → Bool) (k : K) : ∀ {ys : List (K × β)} {bs : List (K × γ)}, all2 R ys bs → all2 R (delL eq k ys) (delL eq k bs)
  | [], [], _ => trivial
  | (a, b) :: ys, (a', c) :: bs, ⟨h1, h2, h3⟩ => by
    subst h1
    simp only [delL]
    split
    · exact h3
    · exact ⟨rfl, h2, all2.del eq k h3⟩
end

section
variable {M M' : List Nat} {h h' : Hp}
theorem BalOk.chg (x : Chg M' h h') (hm : ∀ m, m ∈ M' → m ∈ M) {r : BaleR} {p : BalP} (y : BalOk M h r p) : BalOk M h' r p := ⟨y.1.chg x hm, y.2.chg x hm⟩
theorem BalOk.ext (x : Chg [] h h') {r : BaleR} {p : BalP} (y : BalOk M h r p) : BalOk M h' r p := y.chg x (by simp)
theorem BalOk.sub (hm : ∀ m, m ∈ M' → m ∈ M) {r : BaleR} {p : BalP} (y : BalOk M h r p) : BalOk M' h r p := ⟨y.1.sub hm, y.2.sub hm⟩
theorem BalOk.push {m : Nat} (hm : h.size ≤ m) {r : BaleR} {p : BalP} (y : BalOk M h r p) : BalOk (m :: M) h r p := ⟨y.1.push hm, y.2.push hm⟩
theorem BaleAt.chg (x : Chg M' h h') (hm : ∀ m, m ∈ M' → m ∈ M) {b : Nat} {r : BaleR} (y : BaleAt M h b r) : BaleAt M h' b r := by
  obtain ⟨p, h1, h2, h3⟩ := y
  exact ⟨p, h1, x.of h2 (fun hh => h1 (hm b hh)), h3.chg x hm⟩
theorem BaleAt.sub (hm : ∀ m, m ∈ M' → m ∈ M) {b : Nat} {r : BaleR} (y : BaleAt M h b r) : BaleAt M' h b r := by
  obtain ⟨p, h1, h2, h3⟩ := y
  exact ⟨p, fun hh => h1 (hm b hh), h2, h3.sub hm⟩
theorem BaleAt.push {m : Nat} (hm : h.size ≤ m) {b : Nat} {r : BaleR} (y : BaleAt M h b r) : BaleAt (m :: M) h b r := by
  obtain ⟨p, h1, h2, h3⟩ := y
  have := (Array.getElem?_eq_some_iff.1 h2).1
  exact ⟨p, fun hh => by rcases List.mem_cons.1 hh with rfl | hh; exact absurd hm (by omega); exact h1 hh, h2, h3.push hm⟩
theorem LotAt.chg (x : Chg M' h h') (hm : ∀ m, m ∈ M' → m ∈ M) {b : Nat} {r : LotR} (y : LotAt M h b r) : LotAt M h' b r := by
  obtain ⟨a, cap, h1, h2, h3⟩ := y
  exact ⟨a, cap, h1, x.of h2 (fun hh => h1 (hm b hh)), h3.chg x hm⟩
theorem LotAt.sub (hm : ∀ m, m ∈ M' → m ∈ M) {b : Nat} {r : LotR} (y : LotAt M h b r) : LotAt M' h b r := by
  obtain ⟨a, cap, h1, h2, h3⟩ := y
  exact ⟨a, cap, fun hh => h1 (hm b hh), h2, h3.sub hm⟩
theorem LotAt.push {m : Nat} (hm : h.size ≤ m) {b : Nat} {r : LotR} (y : LotAt M h b r) : LotAt (m :: M) h b r := by
  obtain ⟨a, cap, h1, h2, h3⟩ := y
  have := (Array.getElem?_eq_some_iff.1 h2).1
  exact ⟨a, cap, fun hh => by rcases List.mem_cons.1 hh with rfl | hh; exact absurd hm (by omega); exact h1 hh, h2, h3.push hm⟩
end

/-- what a state tells -/
structure StateR where
  clips : List (Int × ClipR)
  names : List (ByteArray × Int)
  bales : List (Int × BaleR)
  lots : List (ByteArray × LotR)
  totals : List (Int × TotR)
/-- its roots -/
structure StP where
  c : Option Addr
  n : Option Addr
  b : Option Addr
  l : Option Addr
  t : Option Addr
def elSt (p : StP) : List Value := [.pointer p.c, .pointer p.n, .pointer p.b, .pointer p.l, .pointer p.t]
def vSt (p : StP) : Value := .agg #[.pointer p.c, .pointer p.n, .pointer p.b, .pointer p.l, .pointer p.t]
def BalesAt (M : List Nat) (h : Hp) (p : Option Addr) (bs : List (Int × BaleR)) : Prop := ∃ ys, BI.Mp M h p ys ∧ all2 (BaleAt M h) ys bs
def LotsAt (M : List Nat) (h : Hp) (p : Option Addr) (bs : List (ByteArray × LotR)) : Prop := ∃ ys, SL.Mp M h p ys ∧ all2 (LotAt M h) ys bs
structure StOk (M : List Nat) (h : Hp) (p : StP) (σ : StateR) : Prop where
  clips : CI.Mp M h p.c σ.clips
  names : SI.Mp M h p.n σ.names
  bales : BalesAt M h p.b σ.bales
  lots : LotsAt M h p.l σ.lots
  totals : TI.Mp M h p.t σ.totals

section
variable {M M' : List Nat} {h h' : Hp} {q : Option Addr} {p : StP} {σ : StateR}
theorem BalesAt.chg (x : Chg M' h h') (hm : ∀ m, m ∈ M' → m ∈ M) {bs : List (Int × BaleR)} (y : BalesAt M h q bs) : BalesAt M h' q bs := by
  obtain ⟨ys, h1, h2⟩ := y
  exact ⟨ys, h1.chg x hm, h2.mono fun _ _ z => z.chg x hm⟩
theorem BalesAt.sub (hm : ∀ m, m ∈ M' → m ∈ M) {bs : List (Int × BaleR)} (y : BalesAt M h q bs) : BalesAt M' h q bs := by
  obtain ⟨ys, h1, h2⟩ := y
  exact ⟨ys, h1.sub hm, h2.mono fun _ _ z => z.sub hm⟩
theorem BalesAt.push {m : Nat} (hm : h.size ≤ m) {bs : List (Int × BaleR)} (y : BalesAt M h q bs) : BalesAt (m :: M) h q bs := by
  obtain ⟨ys, h1, h2⟩ := y
  exact ⟨ys, h1.push hm, h2.mono fun _ _ z => z.push hm⟩
theorem LotsAt.chg (x : Chg M' h h') (hm : ∀ m, m ∈ M' → m ∈ M) {bs : List (ByteArray × LotR)} (y : LotsAt M h q bs) : LotsAt M h' q bs := by
  obtain ⟨ys, h1, h2⟩ := y
  exact ⟨ys, h1.chg x hm, h2.mono fun _ _ z => z.chg x hm⟩
theorem LotsAt.sub (hm : ∀ m, m ∈ M' → m ∈ M) {bs : List (ByteArray × LotR)} (y : LotsAt M h q bs) : LotsAt M' h q bs := by
  obtain ⟨ys, h1, h2⟩ := y
  exact ⟨ys, h1.sub hm, h2.mono fun _ _ z => z.sub hm⟩
theorem LotsAt.push {m : Nat} (hm : h.size ≤ m) {bs : List (ByteArray × LotR)} (y : LotsAt M h q bs) : LotsAt (m :: M) h q bs := by
  obtain ⟨ys, h1, h2⟩ := y
  exact ⟨ys, h1.push hm, h2.mono fun _ _ z => z.push hm⟩
theorem StOk.chg (x : Chg M' h h') (hm : ∀ m, m ∈ M' → m ∈ M) (y : StOk M h p σ) : StOk M h' p σ := ⟨y.clips.chg x hm, y.names.chg x hm, y.bales.chg x hm, y.lots.chg x hm, y.totals.chg x hm⟩
theorem StOk.ext (x : Chg [] h h') (y : StOk M h p σ) : StOk M h' p σ := y.chg x (by simp)
theorem StOk.sub (hm : ∀ m, m ∈ M' → m ∈ M) (y : StOk M h p σ) : StOk M' h p σ := ⟨y.clips.sub hm, y.names.sub hm, y.bales.sub hm, y.lots.sub hm, y.totals.sub hm⟩
theorem StOk.push {m : Nat} (hm : h.size ≤ m) (y : StOk M h p σ) : StOk (m :: M) h p σ := ⟨y.clips.push hm, y.names.push hm, y.bales.push hm, y.lots.push hm, y.totals.push hm⟩
theorem StOk.zero : StOk M h ⟨none, none, none, none, none⟩ ⟨[], [], [], [], []⟩ := ⟨.nil, .nil, ⟨[], .nil, trivial⟩, ⟨[], .nil, trivial⟩, .nil⟩
end
end Go.Xe
namespace Go.Xe
open Go Go.Proofs
set_option maxRecDepth 20000
variable {c : World}
abbrev StBlk (h : Hp) (sb : Nat) (p : StP) : Prop := h[sb]? = some (.cells (elSt p).toArray 112 (0, 0))
theorem BaleAt.new {M : List Nat} {h h' : Hp} {b : Nat} {r : BaleR} {q : BalP} (hM : Bd M h) (hN : New h h' b (.cells (elBale r q).toArray 42)) (hq : BalOk M h r q) : BaleAt M h' b r :=
  ⟨q, hM.fresh hN, hN.here, hq.ext (hN.chg [])⟩

theorem full_c (M : List Nat) (sb : Nat) (p : StP) (σ : StateR) (h : Hp) (hsb : StBlk h sb p) (hσ : StOk M h p σ) : Call c Tryz.prog 154 #[.pointer (some ⟨sb, 0, none⟩)] h fun v h' => v = .bool (decide (512 ≤ σ.bales.length)) ∧ Chg [] h h' := by
  obtain ⟨ys, hm, ha⟩ := hσ.bales
  refine call_of layOk 9 Tryz.func154 Tryz.ntmps154 rfl rfl rfl rfl ?_
  refine wp_load (ld_of hsb rfl) ?_
  refine wp_call (BI.mlen_c M ys p.b h hm) ?_
  rintro _ h2 ⟨rfl, hc⟩
  refine wp_done ⟨rfl, congrArg Value.bool ?_, hc⟩
  rw [ha.len]
  exact decide_eq_decide.2 (by omega)

theorem keep_c (M : List Nat) (sb : Nat) (p : StP) (σ : StateR) (r : BaleR) (q : BalP) (h : Hp) (hM : Bd M h) (hsM : sb ∈ M) (hsb : StBlk h sb p) (hσ : StOk M h p σ) (hq : BalOk M h r q) (hz : σ.bales.length < 900000) :
    Call c Tryz.prog 161 #[.pointer (some ⟨sb, 0, none⟩), vBale r q] h fun _ h' => ∃ p', StBlk h' sb p' ∧ StOk M h' p' { σ with bales := insL ltI r.no r σ.bales } ∧ Chg [sb] h h' := by
  obtain ⟨ys, hm, ha⟩ := hσ.bales
  refine call_of layOk 14 Tryz.func161 Tryz.ntmps161 rfl rfl rfl rfl ?_
  refine wp_new ?_
  intro b h1 hN
  have hc1 := hN.chg []
  have hb : BaleAt M h1 b r := BaleAt.new hM hN hq
  refine wp_ord layOk mixed [(0, 10)] [] (by kernel_rfl) ?_
  refine wp_load (ld_of (hN.of hsb) rfl) ?_
  refine wp_load (ld_of hN.here rfl) ?_
  refine wp_call (BI.mput_c M ys r.no b p.b h1 (hM.chg hc1) (hm.ext hc1) (by rw [ha.len]; exact hz)) ?_
  rintro _ h2 ⟨q2, rfl, hc2, hm2⟩
  refine wp_store ((hc1.trans hc2).of hsb (by simp)) (by rfl) ?_
  intro h3 hU
  have hc3 : Chg [sb] h2 h3 := hU.chg (by simp)
  have hs : ∀ m, m ∈ [sb] → m ∈ M := fun m hm => by rcases List.mem_singleton.1 hm with rfl; exact hsM
  have h9 := (hσ.ext (hc1.trans hc2)).chg hc3 hs
  refine wp_done ⟨rfl, { p with b := q2 }, hU.here, ⟨h9.clips, h9.names, ⟨_, hm2.chg hc3 hs, ?_⟩, h9.lots, h9.totals⟩, ((hc1.trans hc2).mono (by simp)).trans hc3⟩
  exact ((ha.mono fun _ _ z => (z.chg (hc1.trans hc2) (by simp))).ins ltI r.no (hb.chg hc2 (by simp))).mono fun _ _ z => z.chg hc3 hs

theorem made_c (M : List Nat) (sb : Nat) (p : StP) (σ : StateR) (r : BaleR) (q : BalP) (h : Hp) (hM : Bd M h) (hsM : sb ∈ M) (hsb : StBlk h sb p) (hσ : StOk M h p σ) (hq : BalOk M h r q) (hz : σ.bales.length < 900000) :
    Call c Tryz.prog 157 #[.pointer (some ⟨sb, 0, none⟩), vBale r q] h fun v h' => v = .int .i64 (σ.bales.length + 1) ∧ ∃ p', StBlk h' sb p' ∧ StOk M h' p' { σ with bales := insL ltI (σ.bales.length + 1) { r with no := σ.bales.length + 1 } σ.bales } ∧ Chg [sb] h h' := by
  obtain ⟨ys, hm, ha⟩ := hσ.bales
  have hw : IntKind.i64.wrap ((ys.length : Int) + 1) = σ.bales.length + 1 := by rw [ha.len, w64 (by omega) (by omega)]
  refine call_of layOk 17 Tryz.func157 Tryz.ntmps157 rfl rfl rfl rfl ?_
  refine wp_new ?_
  intro b h1 hN
  have hc1 := hN.chg []
  refine wp_load (ld_of (hN.of hsb) rfl) ?_
  refine wp_call (BI.mlen_c M ys p.b h1 (hm.ext hc1)) ?_
  rintro _ h2 ⟨rfl, hc2⟩
  refine wp_store (hc2.of hN.here (by simp)) (by rfl) ?_
  intro h3 hU3
  have hc3 : Chg [] h h3 := hU3.chgGe (hc1.trans hc2) hN.le
  refine wp_load (v := vBale { r with no := IntKind.i64.wrap ((ys.length : Int) + 1) } q) (ld_of hU3.here rfl) ?_
  refine wp_call (keep_c M sb p σ { r with no := IntKind.i64.wrap ((ys.length : Int) + 1) } q h3 (hM.chg hc3) hsM (hc3.of hsb (by simp)) (hσ.ext hc3) (hq.ext hc3) hz) ?_
  rintro _ h4 ⟨p', hb4, hσ4, hc4⟩
  have hne : b ∉ [sb] := by
    intro hm
    have h5 := List.mem_singleton.1 hm
    have h6 := hN.le
    have h7 := (Array.getElem?_eq_some_iff.1 hsb).1
    omega
  refine wp_load (ld_of (hc4.of hU3.here hne) rfl) ?_
  rw [hw] at hσ4
  exact wp_done ⟨rfl, congrArg (Value.int .i64) hw, p', hb4, hσ4, (hc3.mono (by simp)).trans hc4⟩
end Go.Xe
namespace Go.Xe
open Go Go.Proofs
set_option maxRecDepth 20000
variable {c : World}
/-- what find answers -/
def FindR (M : List Nat) (h' : Hp) (bs : List (Int × BaleR)) (no : Int) (states : List Int) (v : Value) : Prop :=
  match getL eqI no bs with
  | none => v = .tuple #[vBale zBaleR zBalP, .int .i64 7]
  | some r => bif states.contains r.state then ∃ q, v = .tuple #[vBale r q, .int .i64 0] ∧ BalOk M h' r q else v = .tuple #[vBale zBaleR zBalP, .int .i64 10]

theorem find_c (M Ms : List Nat) (sb : Nat) (p : StP) (σ : StateR) (no : Int) (states : List Int) (a : Option Addr) (cap : Nat) (h : Hp) (hsb : StBlk h sb p) (hσ : StOk M h p σ) (hs : IntsAt Ms h a cap states) (hz : states.length < 900000) :
    Call c Tryz.prog 158 #[.pointer (some ⟨sb, 0, none⟩), .int .i64 no, .slice a states.length cap] h fun v h' => FindR M h' σ.bales no states v ∧ Chg [] h h' := by
  obtain ⟨ys, hm, ha⟩ := hσ.bales
  refine call_ofM layOk 35 Tryz.func158 Tryz.ntmps158 rfl rfl rfl ?_
  refine wp_new ?_
  intro b h1 hN
  have hc1 := hN.chg []
  refine wp_load (ld_of (hN.of hsb) rfl) ?_
  refine wp_call (BI.get_c M ys no p.b h1 (hm.ext hc1)) ?_
  rcases ha.get eqI no with ⟨e1, e2⟩ | ⟨bk, r, e1, e2, hb⟩
  · rintro _ h2 ⟨rfl, hc2⟩
    unfold BI.getV
    rw [e1]
    refine wp_brT rfl ?_
    refine wp_store (hc2.of hN.here (by simp)) (by rfl) ?_
    intro h3 hU3
    refine wp_done (finM_at [_, _] rfl ⟨⟨_, _, _, rfl, rfl, ld_of hU3.here rfl⟩, rfl, trivial⟩ ⟨?_, hU3.chgGe (hc1.trans hc2) hN.le⟩)
    unfold FindR
    rw [e2]
    rfl
  · rintro _ h2 ⟨rfl, hc2⟩
    obtain ⟨q, hbM, hbb, hq⟩ := hb
    have hc := hc1.trans hc2
    unfold BI.getV
    rw [e1]
    refine wp_brF rfl ?_
    refine wp_load (ld_of (hc.of hbb (by simp)) rfl) ?_
    refine wp_call (contains_c Ms states r.state a cap h2 (hs.ext hc) hz) ?_
    rintro _ _ ⟨rfl, rfl⟩
    refine wp_br (fun h5 => ?_) (fun h5 => ?_)
    · have hcn : states.contains r.state = false := by cases hx : states.contains r.state with | false => rfl | true => rw [hx] at h5; cases h5
      refine wp_store (hc2.of hN.here (by simp)) (by rfl) ?_
      intro h3 hU3
      refine wp_done (finM_at [_, _] rfl ⟨⟨_, _, _, rfl, rfl, ld_of hU3.here rfl⟩, rfl, trivial⟩ ⟨?_, hU3.chgGe hc hN.le⟩)
      unfold FindR
      rw [e2]
      simp only [hcn, cond_false]
      rfl
    · have hcn : states.contains r.state = true := by cases hx : states.contains r.state with | true => rfl | false => rw [hx] at h5; cases h5
      refine wp_load (v := vBale r q) (ld_of (hc.of hbb (by simp)) rfl) ?_
      refine wp_store (hc2.of hN.here (by simp)) (by rfl) ?_
      intro h3 hU3
      have hc3 := hU3.chgGe hc hN.le
      refine wp_done (finM_n [vBale r q, .int .i64 0] rfl ⟨⟨_, _, _, rfl, rfl, ld_of hU3.here rfl⟩, rfl, trivial⟩ ⟨?_, hc3⟩)
      unfold FindR
      rw [e2]
      simp only [hcn, cond_true]
      exact ⟨q, rfl, hq.ext hc3⟩

def zTotR : TotR := ⟨0, 0, 0, 0, 0, 0⟩
def totOf (ts : List (Int × TotR)) (clip : Int) : TotR := (getL eqI clip ts).getD zTotR
theorem tell_c (M : List Nat) (sb : Nat) (p : StP) (σ : StateR) (clip : Int) (f : Nat) (cv : List Value) (F : TotR → TotR) (h : Hp) (hM : Bd M h) (hsM : sb ∈ M) (hsb : StBlk h sb p) (hσ : StOk M h p σ) (hz : σ.totals.length < 900000)
    (hf : ∀ tb h1 t, Chg [] h h1 → h.size ≤ tb → h1[tb]? = some (.cells (elTot t).toArray 119 (0, 0)) → Call c Tryz.prog f (Value.pointer (some ⟨tb, 0, none⟩) :: cv).toArray h1 fun _ h2 => h2[tb]? = some (.cells (elTot (F t)).toArray 119 (0, 0)) ∧ Chg [tb] h1 h2) :
    Call c Tryz.prog 155 #[.pointer (some ⟨sb, 0, none⟩), .int .i64 clip, .func (.func f) #[] cv.toArray] h fun _ h' => ∃ p', StBlk h' sb p' ∧ StOk M h' p' { σ with totals := insL ltI clip (F (totOf σ.totals clip)) σ.totals } ∧ Chg [sb] h h' := by
  have hgv : ∃ bo, TI.getV clip σ.totals = .tuple #[vTot (totOf σ.totals clip), .bool bo] := by
    unfold TI.getV totOf
    cases getL eqI clip σ.totals with
    | none => exact ⟨false, rfl⟩
    | some t => exact ⟨true, rfl⟩
  obtain ⟨bo, hgv⟩ := hgv
  have hget := TI.get_c (c := c) M σ.totals clip p.t h hσ.totals
  rw [hgv] at hget
  refine call_of layOk 29 Tryz.func155 Tryz.ntmps155 rfl rfl rfl rfl ?_
  refine wp_load (ld_of hsb rfl) ?_
  refine wp_call hget ?_
  rintro _ h1 ⟨rfl, hc1⟩
  refine wp_new ?_
  intro tb h2 hN
  refine wp_store hN.here (by rfl) ?_
  intro h3 hU3
  have hc2 := hN.chg []
  have hc3 : Chg [] h h3 := hU3.chgGe (hc1.trans hc2) (Nat.le_trans hc1.size hN.le)
  have hcall := hf tb h3 (totOf σ.totals clip) hc3 (Nat.le_trans hc1.size hN.le) hU3.here
  refine wp_call hcall ?_
  rintro _ h4 ⟨ht4, hc4⟩
  have hc04 : Chg [] h h4 := hc3.fresh hc4 (by intro m hm; rcases List.mem_singleton.1 hm with rfl; exact .inr (Nat.le_trans hc1.size hN.le))
  refine wp_ord layOk mixed [(0, 10)] [] (by kernel_rfl) ?_
  refine wp_load (ld_of (hc04.of hsb (by simp)) rfl) ?_
  refine wp_load (v := vTot (F (totOf σ.totals clip))) (ld_of ht4 rfl) ?_
  refine wp_call (TI.mput_c M σ.totals clip _ p.t h4 (hM.chg hc04) (hσ.ext hc04).totals hz) ?_
  rintro _ h5 ⟨q2, rfl, hc5, hm5⟩
  have hc05 := hc04.trans hc5
  refine wp_store (hc05.of hsb (by simp)) (by rfl) ?_
  intro h6 hU
  have hc6 : Chg [sb] h5 h6 := hU.chg (by simp)
  have hs : ∀ m, m ∈ [sb] → m ∈ M := fun m hm => by rcases List.mem_singleton.1 hm with rfl; exact hsM
  have h9 := (hσ.ext hc05).chg hc6 hs
  exact wp_done ⟨rfl, { p with t := q2 }, hU.here, ⟨h9.clips, h9.names, h9.bales, h9.lots, hm5.chg hc6 hs⟩, (hc05.mono (by simp)).trans hc6⟩
end Go.Xe
namespace Go.Xe
open Go Go.Proofs
set_option maxRecDepth 20000
variable {c : World}
structure MoveR where
  what : Int
  no : Int
  nos : List Int
  grams : Int
  kind : KindR
  name : ByteArray
  owner : ByteArray
def elMove (m : MoveR) (a : Option Addr) (cap : Nat) : List Value :=
  [.int .i64 m.what, .int .i64 m.no, .slice a m.nos.length cap, .int .i64 m.grams, .int .u8 m.kind.k0, .int .u8 m.kind.k1, .int .u8 m.kind.k2, .int .u8 m.kind.k3, .string m.name, .string m.owner]
def vMove (m : MoveR) (a : Option Addr) (cap : Nat) : Value :=
  .agg #[.int .i64 m.what, .int .i64 m.no, .slice a m.nos.length cap, .int .i64 m.grams, .int .u8 m.kind.k0, .int .u8 m.kind.k1, .int .u8 m.kind.k2, .int .u8 m.kind.k3, .string m.name, .string m.owner]
abbrev W (x : Int) : Int := IntKind.i64.wrap x
def recvT (g : Int) (t : TotR) : TotR := { t with inn := W (t.inn + g), live := W (t.live + g) }
theorem recvT_c (m : MoveR) (a : Option Addr) (cap : Nat) (mb tb : Nat) (t : TotR) (h : Hp) (hmb : h[mb]? = some (.cells (elMove m a cap).toArray 54 (0, 0))) (htb : h[tb]? = some (.cells (elTot t).toArray 119 (0, 0))) :
    Call c Tryz.prog 156 (Value.pointer (some ⟨tb, 0, none⟩) :: [Value.pointer (some ⟨mb, 0, none⟩)]).toArray h fun _ h' => h'[tb]? = some (.cells (elTot (recvT m.grams t)).toArray 119 (0, 0)) ∧ Chg [tb] h h' := by
  have hne : mb ≠ tb := by
    intro e
    subst e
    rw [hmb] at htb
    injection htb with htb
    injection htb with _ h2 _
    cases h2
  refine call_of layOk 21 Tryz.func156 Tryz.ntmps156 rfl rfl rfl rfl ?_
  refine wp_ord layOk mixed [(0, 9)] [] (by kernel_rfl) ?_
  refine wp_load (ld_of htb rfl) ?_
  refine wp_load (ld_of hmb rfl) ?_
  refine wp_store htb (by rfl) ?_
  intro h1 hU1
  have hmb1 := hU1.of hmb hne
  refine wp_ord layOk mixed [(0, 9)] [] (by kernel_rfl) ?_
  refine wp_load (ld_of hU1.here rfl) ?_
  refine wp_load (ld_of hmb1 rfl) ?_
  refine wp_store hU1.here (by rfl) ?_
  intro h2 hU2
  exact wp_done ⟨rfl, hU2.here, (hU1.chg (by simp)).trans (hU2.chg (by simp))⟩
end Go.Xe
namespace Go.Xe
open Go Go.Proofs
set_option maxRecDepth 20000
variable {c : World}
def okCh (x : Int) : Bool := !((decide (x < 97) || decide (x > 122)) && (decide (x < 48) || decide (x > 57)) && (x != 45))
def firstN (s : ByteArray) (n : Nat) : Bool := (List.range n).all fun i => okCh (byteAt s (i : Int))
def nameB (s : ByteArray) : Bool := !(s.toList == (ByteArray.mk #[]).toList) && !(decide ((s.size : Int) > 16)) && !(decide (byteAt s 0 < 97)) && !(decide (byteAt s 0 > 122)) && firstN s s.size
theorem firstN_succ (s : ByteArray) (n : Nat) : firstN s (n + 1) = (firstN s n && okCh (byteAt s (n : Int))) := by
  simp [firstN, List.range_succ]
theorem firstN_false (s : ByteArray) {n m : Nat} (h : n < m) (hf : okCh (byteAt s (n : Int)) = false) : firstN s m = false := by
  unfold firstN
  rw [List.all_eq_false]
  exact ⟨n, List.mem_range.2 h, by rw [hf]; simp⟩
theorem name_c (s : ByteArray) (h : Hp) : Call c Tryz.prog 151 #[.string s] h fun v h' => v = .bool (nameB s) ∧ h' = h := by
  refine call_of layOk 49 Tryz.func151 Tryz.ntmps151 rfl rfl rfl rfl ?_
  refine wp_br (fun h1 => ?_) (fun h1 => ?_)
  · repeat refine wp_brT rfl ?_
    exact wp_done ⟨rfl, congrArg Value.bool (by unfold nameB; rw [show (s.toList == (ByteArray.mk #[]).toList) = true from h1]; rfl), rfl⟩
  · have e1 : (s.toList == (ByteArray.mk #[]).toList) = false := h1
    have hpos : 0 < s.size := by
      rcases Nat.eq_zero_or_pos s.size with h0 | h0
      · exfalso
        rw [Lib.toList_data, Lib.toList_data] at e1
        have : s.data.toList = [] := List.eq_nil_of_length_eq_zero (by simpa using h0)
        rw [this] at e1
        simp at e1
      · exact h0
    repeat refine wp_brF rfl ?_
    refine wp_br (fun h2 => ?_) (fun h2 => ?_)
    · repeat refine wp_brT rfl ?_
      exact wp_done ⟨rfl, congrArg Value.bool (by simp only [nameB, show decide ((s.size : Int) > 16) = true from h2]; simp), rfl⟩
    · have e2 : decide ((s.size : Int) > 16) = false := h2
      have e2' := of_decide_eq_false e2
      repeat (first | refine wp_brF rfl ?_ | refine wp_chk ⟨by omega, by omega⟩ ?_)
      refine wp_br (fun h3 => ?_) (fun h3 => ?_)
      · repeat refine wp_brT rfl ?_
        exact wp_done ⟨rfl, congrArg Value.bool (by simp only [nameB, show decide (byteAt s 0 < 97) = true from h3]; simp), rfl⟩
      · have e3 : decide (byteAt s 0 < 97) = false := h3
        repeat (first | refine wp_brF rfl ?_ | refine wp_chk ⟨by omega, by omega⟩ ?_)
        refine wp_br (fun h4 => ?_) (fun h4 => ?_)
        · exact wp_done ⟨rfl, congrArg Value.bool (by simp only [nameB, show decide (byteAt s 0 > 122) = true from h4]; simp), rfl⟩
        · have e4 : decide (byteAt s 0 > 122) = false := h4
          have hn : nameB s = firstN s s.size := by simp only [nameB, e1, e2, e3, e4]; simp
          refine wp_loopK layOk [24, 2, 3, 4] 25 48 rfl [0, 23] [.string s, .int .i64 s.size] rfl [] rfl (fun m vals h' => ∃ (j : Nat) (u1 u2 u3 : Value), vals = [.int .i64 j, u1, u2, u3] ∧ h' = h ∧ j + m = s.size ∧ firstN s j = true) s.size ⟨0, _, _, _, rfl, rfl, by omega, rfl⟩ ?_
          rintro ρ0 m g vals h' - ⟨j, u1, u2, u3, rfl, rfl, hm, hf⟩
          refine wp_br (fun h5 => ?_) (fun h5 => ?_)
          · have hj' : (j : Int) < (s.size : Int) := of_decide_eq_true h5
            clear h5
            refine wp_chk ⟨by omega, by omega⟩ ?_
            have hno : okCh (byteAt s j) = false → nameB s = false := fun hx => hn.trans (firstN_false s (by omega) hx)
            have hyes : okCh (byteAt s j) = true → firstN s (j + 1) = true := fun hx => by rw [firstN_succ, hf, hx]; rfl
            have hwj : IntKind.i64.wrap ((j : Int) + 1) = ((j + 1 : Nat) : Int) := by rw [w64 (by omega) (by omega)]; omega
            refine wp_br (fun c1 => ?_) (fun c1 => ?_)
            · have d1 : decide (byteAt s (j : Int) < 97) = true := c1
              repeat (first | refine wp_brT rfl ?_ | refine wp_brF rfl ?_)
              refine wp_br (fun c3 => ?_) (fun c3 => ?_)
              · have d3 : decide (byteAt s (j : Int) < 48) = true := c3
                repeat (first | refine wp_brT rfl ?_ | refine wp_brF rfl ?_)
                refine wp_br (fun c5 => ?_) (fun c5 => ?_)
                · have d5 : (byteAt s (j : Int) != 45) = true := c5
                  repeat (first | refine wp_brT rfl ?_ | refine wp_brF rfl ?_)
                  refine wp_done ?_
                  show X.wp _ _ _ _ _ _ _
                  exact wp_done ⟨rfl, congrArg Value.bool (hno (by unfold okCh; rw [d1, d3, d5]; rfl)).symm, rfl⟩
                · have d5 : (byteAt s (j : Int) != 45) = false := c5
                  repeat (first | refine wp_brT rfl ?_ | refine wp_brF rfl ?_)
                  exact wp_done ⟨m - 1, by omega, j + 1, u1, .int .i64 j, .int .u8 (byteAt s j), congrArg (fun z => [Value.int .i64 z, u1, .int .i64 j, .int .u8 (byteAt s j)]) hwj, rfl, by omega, hyes (by unfold okCh; rw [d1, d3, d5]; rfl)⟩
              · have d3 : decide (byteAt s (j : Int) < 48) = false := c3
                repeat (first | refine wp_brT rfl ?_ | refine wp_brF rfl ?_)
                refine wp_br (fun c4 => ?_) (fun c4 => ?_)
                · have d4 : decide (byteAt s (j : Int) > 57) = true := c4
                  repeat (first | refine wp_brT rfl ?_ | refine wp_brF rfl ?_)
                  refine wp_br (fun c5 => ?_) (fun c5 => ?_)
                  · have d5 : (byteAt s (j : Int) != 45) = true := c5
                    repeat (first | refine wp_brT rfl ?_ | refine wp_brF rfl ?_)
                    refine wp_done ?_
                    show X.wp _ _ _ _ _ _ _
                    exact wp_done ⟨rfl, congrArg Value.bool (hno (by unfold okCh; rw [d1, d3, d4, d5]; rfl)).symm, rfl⟩
                  · have d5 : (byteAt s (j : Int) != 45) = false := c5
                    repeat (first | refine wp_brT rfl ?_ | refine wp_brF rfl ?_)
                    exact wp_done ⟨m - 1, by omega, j + 1, u1, .int .i64 j, .int .u8 (byteAt s j), congrArg (fun z => [Value.int .i64 z, u1, .int .i64 j, .int .u8 (byteAt s j)]) hwj, rfl, by omega, hyes (by unfold okCh; rw [d1, d3, d4, d5]; rfl)⟩
                · have d4 : decide (byteAt s (j : Int) > 57) = false := c4
                  repeat (first | refine wp_brT rfl ?_ | refine wp_brF rfl ?_)
                  exact wp_done ⟨m - 1, by omega, j + 1, u1, .int .i64 j, .int .u8 (byteAt s j), congrArg (fun z => [Value.int .i64 z, u1, .int .i64 j, .int .u8 (byteAt s j)]) hwj, rfl, by omega, hyes (by unfold okCh; rw [d1, d3, d4]; rfl)⟩
            · have d1 : decide (byteAt s (j : Int) < 97) = false := c1
              repeat (first | refine wp_brT rfl ?_ | refine wp_brF rfl ?_)
              refine wp_br (fun c2 => ?_) (fun c2 => ?_)
              · have d2 : decide (byteAt s (j : Int) > 122) = true := c2
                repeat (first | refine wp_brT rfl ?_ | refine wp_brF rfl ?_)
                refine wp_br (fun c3 => ?_) (fun c3 => ?_)
                · have d3 : decide (byteAt s (j : Int) < 48) = true := c3
                  repeat (first | refine wp_brT rfl ?_ | refine wp_brF rfl ?_)
                  refine wp_br (fun c5 => ?_) (fun c5 => ?_)
                  · have d5 : (byteAt s (j : Int) != 45) = true := c5
                    repeat (first | refine wp_brT rfl ?_ | refine wp_brF rfl ?_)
                    refine wp_done ?_
                    show X.wp _ _ _ _ _ _ _
                    exact wp_done ⟨rfl, congrArg Value.bool (hno (by unfold okCh; rw [d1, d2, d3, d5]; rfl)).symm, rfl⟩
                  · have d5 : (byteAt s (j : Int) != 45) = false := c5
                    repeat (first | refine wp_brT rfl ?_ | refine wp_brF rfl ?_)
                    exact wp_done ⟨m - 1, by omega, j + 1, u1, .int .i64 j, .int .u8 (byteAt s j), congrArg (fun z => [Value.int .i64 z, u1, .int .i64 j, .int .u8 (byteAt s j)]) hwj, rfl, by omega, hyes (by unfold okCh; rw [d1, d2, d3, d5]; rfl)⟩
                · have d3 : decide (byteAt s (j : Int) < 48) = false := c3
                  repeat (first | refine wp_brT rfl ?_ | refine wp_brF rfl ?_)
                  refine wp_br (fun c4 => ?_) (fun c4 => ?_)
                  · have d4 : decide (byteAt s (j : Int) > 57) = true := c4
                    repeat (first | refine wp_brT rfl ?_ | refine wp_brF rfl ?_)
                    refine wp_br (fun c5 => ?_) (fun c5 => ?_)
                    · have d5 : (byteAt s (j : Int) != 45) = true := c5
                      repeat (first | refine wp_brT rfl ?_ | refine wp_brF rfl ?_)
                      refine wp_done ?_
                      show X.wp _ _ _ _ _ _ _
                      exact wp_done ⟨rfl, congrArg Value.bool (hno (by unfold okCh; rw [d1, d2, d3, d4, d5]; rfl)).symm, rfl⟩
                    · have d5 : (byteAt s (j : Int) != 45) = false := c5
                      repeat (first | refine wp_brT rfl ?_ | refine wp_brF rfl ?_)
                      exact wp_done ⟨m - 1, by omega, j + 1, u1, .int .i64 j, .int .u8 (byteAt s j), congrArg (fun z => [Value.int .i64 z, u1, .int .i64 j, .int .u8 (byteAt s j)]) hwj, rfl, by omega, hyes (by unfold okCh; rw [d1, d2, d3, d4, d5]; rfl)⟩
                  · have d4 : decide (byteAt s (j : Int) > 57) = false := c4
                    repeat (first | refine wp_brT rfl ?_ | refine wp_brF rfl ?_)
                    exact wp_done ⟨m - 1, by omega, j + 1, u1, .int .i64 j, .int .u8 (byteAt s j), congrArg (fun z => [Value.int .i64 z, u1, .int .i64 j, .int .u8 (byteAt s j)]) hwj, rfl, by omega, hyes (by unfold okCh; rw [d1, d2, d3, d4]; rfl)⟩
              · have d2 : decide (byteAt s (j : Int) > 122) = false := c2
                repeat (first | refine wp_brT rfl ?_ | refine wp_brF rfl ?_)
                exact wp_done ⟨m - 1, by omega, j + 1, u1, .int .i64 j, .int .u8 (byteAt s j), congrArg (fun z => [Value.int .i64 z, u1, .int .i64 j, .int .u8 (byteAt s j)]) hwj, rfl, by omega, hyes (by unfold okCh; rw [d1, d2]; rfl)⟩
          · have hj' : ¬ ((j : Int) < (s.size : Int)) := of_decide_eq_false h5
            clear h5
            have hjs : j = s.size := by omega
            have hr : nameB s = true := by rw [hn, ← hjs]; exact hf
            refine wp_done ?_
            show X.wp _ _ _ _ _ _ _
            exact wp_done ⟨rfl, congrArg Value.bool hr.symm, rfl⟩
end Go.Xe
