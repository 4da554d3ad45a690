/- Lemmas on the way: A range over a function that collects. A range over a map at CI. A range over a map at BI. A range over a map at SL. -/
import Derived.Test.YtebbgoklldmkiaaGreatQ42
import Derived.Test.YtebbgoklldmkiaaGreatQ20
import Derived.Test.YtebbgoklldmkiaaGreatQ22
import Derived.Test.YtebbgoklldmkiaaGreatQ23
namespace Go.Xe
open Go Go.Proofs
set_option maxRecDepth 20000
section
variable {α β : Type} {e sz e2 sz2 T : Nat} {enc : α → List Value} {enc2 : β → List Value}
theorem OwnAt.apart {h h' : Hp} {a a2 : Option Addr} {cap cap2 : Nat} {l : List α} {l2 : List β} {blk blk2 : Option Nat}
    (x : Chg blk2.toList h h') (ho : OwnAt e2 sz2 enc2 h a2 cap2 l2 blk2) (he : e2 ≠ e) (y : OwnAt e sz enc h a cap l blk) : OwnAt e sz enc h' a cap l blk := by
  refine y.chg x fun g hg hm => ?_
  have hm : blk2 = some g := by simpa using hm
  rcases ho with ⟨_, _, _, r⟩ | ⟨g1, cs, _, r, r2, _⟩
  · rw [r] at hm; cases hm
  · rcases y with ⟨_, _, _, q⟩ | ⟨g2, cs2, _, q, q2, _⟩
    · rw [q] at hg; cases hg
    · rw [r] at hm
      rw [q] at hg
      cases hg
      cases hm
      exact ne_of_ty r2 q2 he rfl
theorem OwnAt.ne {h : Hp} {a : Option Addr} {cap : Nat} {l : List α} {blk : Option Nat} {b : Nat} {cs : Array Value} {fz : Nat × Nat} (y : OwnAt e sz enc h a cap l blk) (hb : h[b]? = some (.cells cs T fz)) (hT : T ≠ e) : ∀ g, blk = some g → g ≠ b := by
  intro g hg
  rcases y with ⟨_, _, _, q⟩ | ⟨g2, cs2, _, q, q2, _⟩
  · rw [q] at hg; cases hg
  · rw [q] at hg
    cases hg
    exact ne_of_ty q2 hb hT.symm
/-- what was collected lies in a block of its own, named in b -/
structure CollAt (e sz : Nat) (enc : α → List Value) (T : Nat) (h0 : Hp) (b : Nat) (l : List α) (h : Hp) (a : Option Addr) (cap : Nat) (blk : Option Nat) : Prop where
  cell : h[b]? = some (.cells #[.slice a l.length cap] T (0, 0))
  own : OwnAt e sz enc h a cap l blk
  chg : Chg [b] h0 h
  size : h0.size + 2 ≤ h.size
  new : ∀ g, blk = some g → h0.size + 2 ≤ g
def Coll (e sz : Nat) (enc : α → List Value) (T : Nat) (h0 : Hp) (b : Nat) (l : List α) (h : Hp) : Prop := ∃ a cap blk, CollAt e sz enc T h0 b l h a cap blk
variable {h0 h h' : Hp} {b : Nat} {l : List α}
theorem CollAt.upd {a : Option Addr} {cap : Nat} {blk : Option Nat} (hb : b < h0.size) {k : Nat} {o : Obj} (hk : k = h0.size ∨ k = h0.size + 1) (x : Upd h h' k o) (y : CollAt e sz enc T h0 b l h a cap blk) : CollAt e sz enc T h0 b l h' a cap blk :=
  ⟨x.of y.cell (by omega), y.own.wr x (fun g hg => by have := y.new g hg; omega), ⟨by rw [x.size]; exact y.chg.size, fun j hj hm => (x.other j (by omega)).trans (y.chg.same j hj hm)⟩, by rw [x.size]; exact y.size, y.new⟩
theorem Coll.upd (hb : b < h0.size) {k : Nat} {o : Obj} (hk : k = h0.size ∨ k = h0.size + 1) (x : Upd h h' k o) (y : Coll e sz enc T h0 b l h) : Coll e sz enc T h0 b l h' := by
  obtain ⟨a, cap, blk, y⟩ := y
  exact ⟨a, cap, blk, y.upd hb hk x⟩
theorem Coll.start (hb : h0[b]? = some (.cells #[.slice none 0 0] T (0, 0))) (x : Chg [] h0 h) (hs : h.size = h0.size + 2) : Coll e sz enc T h0 b ([] : List α) h :=
  ⟨none, 0, none, x.of hb (by simp), .nil, x.mono (by simp), by omega, fun g hg => by cases hg⟩
theorem CollAt.ext {a : Option Addr} {cap : Nat} {blk : Option Nat} (x : Chg [] h h') (y : CollAt e sz enc T h0 b l h a cap blk) : CollAt e sz enc T h0 b l h' a cap blk :=
  ⟨x.of y.cell (by simp), y.own.ext x, y.chg.trans (x.mono (by simp)), Nat.le_trans y.size x.size, y.new⟩
theorem CollAt.step {h1 h2 : Hp} {a a2 : Option Addr} {cap cap2 : Nat} {blk blk2 : Option Nat} {l2 : List α} (hb : b < h0.size) (y : CollAt e sz enc T h0 b l h a cap blk) (ho : OwnAt e sz enc h1 a2 cap2 l2 blk2) (hc : Chg blk.toList h h1)
    (hb2 : blk2 = blk ∨ ∃ g, blk2 = some g ∧ h.size ≤ g) (hU : Upd h1 h2 b (.cells #[.slice a2 l2.length cap2] T)) : CollAt e sz enc T h0 b l2 h2 a2 cap2 blk2 ∧ ∀ k o, k = h0.size ∨ k = h0.size + 1 → h[k]? = some o → h2[k]? = some o := by
  have hn2 : ∀ g, blk2 = some g → h0.size + 2 ≤ g := by
    intro g hg
    rcases hb2 with rfl | ⟨g', rfl, hg'⟩
    · exact y.new g hg
    · cases hg
      exact Nat.le_trans y.size hg'
  refine ⟨⟨hU.here, ho.wr hU (fun g hg => by have := hn2 g hg; omega), (y.chg.fresh hc fun k hk => .inr (by have := y.new k (by simpa using hk); omega)).trans (hU.chg (by simp)), by rw [hU.size]; exact Nat.le_trans y.size hc.size, hn2⟩, fun k o hk hx => ?_⟩
  exact hU.of (hc.of hx fun hm => by have := y.new k (by simpa using hm); omega) (by omega)
theorem CollAt.cell' {a : Option Addr} {cap : Nat} {blk : Option Nat} (hc : Chg blk.toList h h') (hT : T ≠ e) (y : CollAt e sz enc T h0 b l h a cap blk) : h'[b]? = some (.cells #[.slice a l.length cap] T (0, 0)) :=
  hc.of y.cell fun hm => y.own.ne y.cell hT b (by simpa using hm) rfl
end
end Go.Xe
namespace Go.Xe.CI
open Go Go.Proofs
set_option maxRecDepth 20000
variable {c : World}
def pr (x : Int × ClipR) : List Value := [Value.int .i64 x.1, vClip x.2]
theorem walk_c (M : List Nat) (l : Nat) (h0 : Hp) (J : Nat → Hp → Prop) (hJ : ∀ i h, J i h → Chg M h0 h) (t : Tr Int ClipR) : ∀ (p : Option Addr) (a : Nat) (h : Hp), At M h0 t p → J a h →
    (∀ i x h, t.toL[i]? = some x → J (a + i) h → Yield c Tryz.prog l (pr x).toArray h fun r h' => r = .bool true ∧ J (a + i + 1) h') →
    Call c Tryz.prog 111 #[.pointer p, .pointer none, .func (.yield l) #[] #[]] h fun r h' => r = .bool true ∧ J (a + t.size) h' := by
  induction t with
  | leaf =>
    intro p a h ht ha hy
    obtain rfl := ht
    refine call_of layOk 55 Tryz.func111 Tryz.ntmps111 rfl rfl rfl rfl ?_
    exact wp_brT rfl (wp_done ⟨rfl, rfl, ha⟩)
  | node tl k v tr ihl ihr =>
    intro p a h ht ha hy
    obtain ⟨b, ql, qr, rfl, hbM, hb, hl, hr⟩ := ht
    have hl0 := Tr.length_toL tl
    refine call_of layOk 55 Tryz.func111 Tryz.ntmps111 rfl rfl rfl rfl ?_
    refine wp_brF rfl ?_
    refine wp_ord layOk mixed [(0, 11)] [] (by kernel_rfl) ?_
    repeat refine wp_brF rfl ?_
    refine wp_ord layOk mixed [(0, 27)] [] (by kernel_rfl) ?_
    refine wp_load (ld_of ((hJ _ _ ha).of hb hbM) rfl) ?_
    refine wp_call (ihl ql a h hl ha fun i x h hx => hy i x h ?_) ?_
    · have hi := (List.getElem?_eq_some_iff.1 hx).1
      simp only [Tr.toL]
      rw [List.getElem?_append_left hi]
      exact hx
    rintro _ h2 ⟨rfl, ha2⟩
    have hb2 := (hJ _ _ ha2).of hb hbM
    repeat refine wp_brT rfl ?_
    refine wp_load (ld_of hb2 rfl) ?_
    repeat refine wp_brT rfl ?_
    refine wp_load (ld_of hb2 rfl) ?_
    repeat refine wp_brT rfl ?_
    refine wp_round (hy tl.size (k, v) h2 (by simp [Tr.toL, ← hl0]) ha2) ?_
    rintro _ h3 ⟨rfl, ha3⟩
    have hb3 := (hJ _ _ ha3).of hb hbM
    repeat refine wp_brT rfl ?_
    refine wp_load (ld_of hb3 rfl) ?_
    repeat refine wp_brT rfl ?_
    refine wp_call (ihr qr (a + tl.size + 1) h3 hr ha3 fun i x h hx hj => ?_) ?_
    · have := hy (tl.size + 1 + i) x h (by
        simp only [Tr.toL]
        rw [List.getElem?_append_right (by omega), hl0, show tl.size + 1 + i - tl.size = i + 1 from by omega]
        exact hx) (by rw [show a + (tl.size + 1 + i) = a + tl.size + 1 + i from by omega]; exact hj)
      rw [show a + (tl.size + 1 + i) + 1 = a + tl.size + 1 + i + 1 from by omega] at this
      exact this
    rintro _ h4 ⟨rfl, ha4⟩
    repeat refine wp_brT rfl ?_
    refine wp_done ⟨rfl, rfl, ?_⟩
    simp only [Tr.size]
    rw [show a + (tl.size + tr.size + 1) = a + tl.size + 1 + tr.size from by omega]
    exact ha4
theorem all_c (p : Option Addr) (h : Hp) : Call c Tryz.prog 73 #[.agg #[.pointer p]] h fun v h' => ∃ b, v = .func (.func 110) #[] #[.pointer (some ⟨b, 0, none⟩)] ∧ New h h' b (.cells #[.pointer p] 98) := by
  refine call_of layOk 4 Tryz.func73 Tryz.ntmps73 rfl rfl rfl rfl ?_
  refine wp_new ?_
  intro b h' hN
  exact wp_done ⟨rfl, b, rfl, hN⟩
theorem it_c (M : List Nat) (h0 : Hp) (xs : List (Int × ClipR)) (p : Option Addr) (bm : Nat) (hm : Mp M h0 p xs) (hb : h0[bm]? = some (.cells #[.pointer p] 98 (0, 0))) (hbM : bm ∉ M) (l : Nat) (J : Nat → Hp → Prop) (hJ : ∀ i h, J i h → Chg M h0 h) (h : Hp) (ha : J 0 h)
    (hy : ∀ i x h, (xs.map pr)[i]? = some x → J i h → Yield c Tryz.prog l x.toArray h fun r h' => r = .bool true ∧ J (i + 1) h') :
    Call c Tryz.prog 110 #[.func (.yield l) #[] #[], .pointer (some ⟨bm, 0, none⟩)] h fun _ h' => J (xs.map pr).length h' := by
  obtain ⟨t, ht, rfl, hs⟩ := hm
  refine call_of layOk 7 Tryz.func110 Tryz.ntmps110 rfl rfl rfl rfl ?_
  refine wp_load (ld_of ((hJ _ _ ha).of hb hbM) rfl) ?_
  refine wp_call (walk_c M l h0 J hJ t p 0 h ht ha fun i x h hx hj => ?_) ?_
  · have := hy i (pr x) h (by simp [hx]) (by rw [Nat.zero_add] at hj; exact hj)
    rw [Nat.zero_add]
    exact this
  rintro _ h4 ⟨rfl, ha4⟩
  refine wp_done ⟨rfl, ?_⟩
  rw [List.length_map, Tr.length_toL, ← Nat.zero_add t.size]
  exact ha4
end Go.Xe.CI
namespace Go.Xe.BI
open Go Go.Proofs
set_option maxRecDepth 20000
variable {c : World}
def pr (x : Int × Nat) : List Value := [Value.int .i64 x.1, vPtr x.2]
theorem walk_c (M : List Nat) (l : Nat) (h0 : Hp) (J : Nat → Hp → Prop) (hJ : ∀ i h, J i h → Chg M h0 h) (t : Tr Int Nat) : ∀ (p : Option Addr) (a : Nat) (h : Hp), At M h0 t p → J a h →
    (∀ i x h, t.toL[i]? = some x → J (a + i) h → Yield c Tryz.prog l (pr x).toArray h fun r h' => r = .bool true ∧ J (a + i + 1) h') →
    Call c Tryz.prog 103 #[.pointer p, .pointer none, .func (.yield l) #[] #[]] h fun r h' => r = .bool true ∧ J (a + t.size) h' := by
  induction t with
  | leaf =>
    intro p a h ht ha hy
    obtain rfl := ht
    refine call_of layOk 55 Tryz.func103 Tryz.ntmps103 rfl rfl rfl rfl ?_
    exact wp_brT rfl (wp_done ⟨rfl, rfl, ha⟩)
  | node tl k v tr ihl ihr =>
    intro p a h ht ha hy
    obtain ⟨b, ql, qr, rfl, hbM, hb, hl, hr⟩ := ht
    have hl0 := Tr.length_toL tl
    refine call_of layOk 55 Tryz.func103 Tryz.ntmps103 rfl rfl rfl rfl ?_
    refine wp_brF rfl ?_
    refine wp_ord layOk mixed [(0, 11)] [] (by kernel_rfl) ?_
    repeat refine wp_brF rfl ?_
    refine wp_ord layOk mixed [(0, 27)] [] (by kernel_rfl) ?_
    refine wp_load (ld_of ((hJ _ _ ha).of hb hbM) rfl) ?_
    refine wp_call (ihl ql a h hl ha fun i x h hx => hy i x h ?_) ?_
    · have hi := (List.getElem?_eq_some_iff.1 hx).1
      simp only [Tr.toL]
      rw [List.getElem?_append_left hi]
      exact hx
    rintro _ h2 ⟨rfl, ha2⟩
    have hb2 := (hJ _ _ ha2).of hb hbM
    repeat refine wp_brT rfl ?_
    refine wp_load (ld_of hb2 rfl) ?_
    repeat refine wp_brT rfl ?_
    refine wp_load (ld_of hb2 rfl) ?_
    repeat refine wp_brT rfl ?_
    refine wp_round (hy tl.size (k, v) h2 (by simp [Tr.toL, ← hl0]) ha2) ?_
    rintro _ h3 ⟨rfl, ha3⟩
    have hb3 := (hJ _ _ ha3).of hb hbM
    repeat refine wp_brT rfl ?_
    refine wp_load (ld_of hb3 rfl) ?_
    repeat refine wp_brT rfl ?_
    refine wp_call (ihr qr (a + tl.size + 1) h3 hr ha3 fun i x h hx hj => ?_) ?_
    · have := hy (tl.size + 1 + i) x h (by
        simp only [Tr.toL]
        rw [List.getElem?_append_right (by omega), hl0, show tl.size + 1 + i - tl.size = i + 1 from by omega]
        exact hx) (by rw [show a + (tl.size + 1 + i) = a + tl.size + 1 + i from by omega]; exact hj)
      rw [show a + (tl.size + 1 + i) + 1 = a + tl.size + 1 + i + 1 from by omega] at this
      exact this
    rintro _ h4 ⟨rfl, ha4⟩
    repeat refine wp_brT rfl ?_
    refine wp_done ⟨rfl, rfl, ?_⟩
    simp only [Tr.size]
    rw [show a + (tl.size + tr.size + 1) = a + tl.size + 1 + tr.size from by omega]
    exact ha4
theorem all_c (p : Option Addr) (h : Hp) : Call c Tryz.prog 63 #[.agg #[.pointer p]] h fun v h' => ∃ b, v = .func (.func 102) #[] #[.pointer (some ⟨b, 0, none⟩)] ∧ New h h' b (.cells #[.pointer p] 104) := by
  refine call_of layOk 4 Tryz.func63 Tryz.ntmps63 rfl rfl rfl rfl ?_
  refine wp_new ?_
  intro b h' hN
  exact wp_done ⟨rfl, b, rfl, hN⟩
theorem it_c (M : List Nat) (h0 : Hp) (xs : List (Int × Nat)) (p : Option Addr) (bm : Nat) (hm : Mp M h0 p xs) (hb : h0[bm]? = some (.cells #[.pointer p] 104 (0, 0))) (hbM : bm ∉ M) (l : Nat) (J : Nat → Hp → Prop) (hJ : ∀ i h, J i h → Chg M h0 h) (h : Hp) (ha : J 0 h)
    (hy : ∀ i x h, (xs.map pr)[i]? = some x → J i h → Yield c Tryz.prog l x.toArray h fun r h' => r = .bool true ∧ J (i + 1) h') :
    Call c Tryz.prog 102 #[.func (.yield l) #[] #[], .pointer (some ⟨bm, 0, none⟩)] h fun _ h' => J (xs.map pr).length h' := by
  obtain ⟨t, ht, rfl, hs⟩ := hm
  refine call_of layOk 7 Tryz.func102 Tryz.ntmps102 rfl rfl rfl rfl ?_
  refine wp_load (ld_of ((hJ _ _ ha).of hb hbM) rfl) ?_
  refine wp_call (walk_c M l h0 J hJ t p 0 h ht ha fun i x h hx hj => ?_) ?_
  · have := hy i (pr x) h (by simp [hx]) (by rw [Nat.zero_add] at hj; exact hj)
    rw [Nat.zero_add]
    exact this
  rintro _ h4 ⟨rfl, ha4⟩
  refine wp_done ⟨rfl, ?_⟩
  rw [List.length_map, Tr.length_toL, ← Nat.zero_add t.size]
  exact ha4
end Go.Xe.BI
namespace Go.Xe.SL
open Go Go.Proofs
set_option maxRecDepth 20000
variable {c : World}
def pr (x : ByteArray × Nat) : List Value := [Value.string x.1, vPtr x.2]
theorem walk_c (M : List Nat) (l : Nat) (h0 : Hp) (J : Nat → Hp → Prop) (hJ : ∀ i h, J i h → Chg M h0 h) (t : Tr ByteArray Nat) : ∀ (p : Option Addr) (a : Nat) (h : Hp), At M h0 t p → J a h →
    (∀ i x h, t.toL[i]? = some x → J (a + i) h → Yield c Tryz.prog l (pr x).toArray h fun r h' => r = .bool true ∧ J (a + i + 1) h') →
    Call c Tryz.prog 106 #[.pointer p, .pointer none, .func (.yield l) #[] #[]] h fun r h' => r = .bool true ∧ J (a + t.size) h' := by
  induction t with
  | leaf =>
    intro p a h ht ha hy
    obtain rfl := ht
    refine call_of layOk 55 Tryz.func106 Tryz.ntmps106 rfl rfl rfl rfl ?_
    exact wp_brT rfl (wp_done ⟨rfl, rfl, ha⟩)
  | node tl k v tr ihl ihr =>
    intro p a h ht ha hy
    obtain ⟨b, ql, qr, rfl, hbM, hb, hl, hr⟩ := ht
    have hl0 := Tr.length_toL tl
    refine call_of layOk 55 Tryz.func106 Tryz.ntmps106 rfl rfl rfl rfl ?_
    refine wp_brF rfl ?_
    refine wp_ord layOk mixed [(0, 11)] [] (by kernel_rfl) ?_
    repeat refine wp_brF rfl ?_
    refine wp_ord layOk mixed [(0, 27)] [] (by kernel_rfl) ?_
    refine wp_load (ld_of ((hJ _ _ ha).of hb hbM) rfl) ?_
    refine wp_call (ihl ql a h hl ha fun i x h hx => hy i x h ?_) ?_
    · have hi := (List.getElem?_eq_some_iff.1 hx).1
      simp only [Tr.toL]
      rw [List.getElem?_append_left hi]
      exact hx
    rintro _ h2 ⟨rfl, ha2⟩
    have hb2 := (hJ _ _ ha2).of hb hbM
    repeat refine wp_brT rfl ?_
    refine wp_load (ld_of hb2 rfl) ?_
    repeat refine wp_brT rfl ?_
    refine wp_load (ld_of hb2 rfl) ?_
    repeat refine wp_brT rfl ?_
    refine wp_round (hy tl.size (k, v) h2 (by simp [Tr.toL, ← hl0]) ha2) ?_
    rintro _ h3 ⟨rfl, ha3⟩
    have hb3 := (hJ _ _ ha3).of hb hbM
    repeat refine wp_brT rfl ?_
    refine wp_load (ld_of hb3 rfl) ?_
    repeat refine wp_brT rfl ?_
    refine wp_call (ihr qr (a + tl.size + 1) h3 hr ha3 fun i x h hx hj => ?_) ?_
    · have := hy (tl.size + 1 + i) x h (by
        simp only [Tr.toL]
        rw [List.getElem?_append_right (by omega), hl0, show tl.size + 1 + i - tl.size = i + 1 from by omega]
        exact hx) (by rw [show a + (tl.size + 1 + i) = a + tl.size + 1 + i from by omega]; exact hj)
      rw [show a + (tl.size + 1 + i) + 1 = a + tl.size + 1 + i + 1 from by omega] at this
      exact this
    rintro _ h4 ⟨rfl, ha4⟩
    repeat refine wp_brT rfl ?_
    refine wp_done ⟨rfl, rfl, ?_⟩
    simp only [Tr.size]
    rw [show a + (tl.size + tr.size + 1) = a + tl.size + 1 + tr.size from by omega]
    exact ha4
theorem all_c (p : Option Addr) (h : Hp) : Call c Tryz.prog 65 #[.agg #[.pointer p]] h fun v h' => ∃ b, v = .func (.func 105) #[] #[.pointer (some ⟨b, 0, none⟩)] ∧ New h h' b (.cells #[.pointer p] 107) := by
  refine call_of layOk 4 Tryz.func65 Tryz.ntmps65 rfl rfl rfl rfl ?_
  refine wp_new ?_
  intro b h' hN
  exact wp_done ⟨rfl, b, rfl, hN⟩
theorem it_c (M : List Nat) (h0 : Hp) (xs : List (ByteArray × Nat)) (p : Option Addr) (bm : Nat) (hm : Mp M h0 p xs) (hb : h0[bm]? = some (.cells #[.pointer p] 107 (0, 0))) (hbM : bm ∉ M) (l : Nat) (J : Nat → Hp → Prop) (hJ : ∀ i h, J i h → Chg M h0 h) (h : Hp) (ha : J 0 h)
    (hy : ∀ i x h, (xs.map pr)[i]? = some x → J i h → Yield c Tryz.prog l x.toArray h fun r h' => r = .bool true ∧ J (i + 1) h') :
    Call c Tryz.prog 105 #[.func (.yield l) #[] #[], .pointer (some ⟨bm, 0, none⟩)] h fun _ h' => J (xs.map pr).length h' := by
  obtain ⟨t, ht, rfl, hs⟩ := hm
  refine call_of layOk 7 Tryz.func105 Tryz.ntmps105 rfl rfl rfl rfl ?_
  refine wp_load (ld_of ((hJ _ _ ha).of hb hbM) rfl) ?_
  refine wp_call (walk_c M l h0 J hJ t p 0 h ht ha fun i x h hx hj => ?_) ?_
  · have := hy i (pr x) h (by simp [hx]) (by rw [Nat.zero_add] at hj; exact hj)
    rw [Nat.zero_add]
    exact this
  rintro _ h4 ⟨rfl, ha4⟩
  refine wp_done ⟨rfl, ?_⟩
  rw [List.length_map, Tr.length_toL, ← Nat.zero_add t.size]
  exact ha4
end Go.Xe.SL
