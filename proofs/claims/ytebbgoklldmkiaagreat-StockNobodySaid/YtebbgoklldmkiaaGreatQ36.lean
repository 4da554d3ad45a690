/- A range over a map at II. -/
import Derived.Test.YtebbgoklldmkiaaGreatQ35
namespace Go.Xe.II
open Go Go.Proofs
set_option maxRecDepth 20000
variable {c : World}
def pr (x : Int × Int) : List Value := [Value.int .i64 x.1, Value.int .i64 x.2]
theorem walk_c (M : List Nat) (l : Nat) (h0 : Hp) (J : Nat → Hp → Prop) (hJ : ∀ i h, J i h → Chg M h0 h) (t : Tr Int Int) : ∀ (p : Option Addr) (a : Nat) (h : Hp), At M h0 t p → J a h →
    (∀ i x h, t.toL[i]? = some x → J (a + i) h → Yield c Tryz.prog l (pr x).toArray h fun r h' => r = .bool true ∧ J (a + i + 1) h') →
    Call c Tryz.prog 216 #[.pointer p, .pointer none, .func (.yield l) #[] #[]] h fun r h' => r = .bool true ∧ J (a + t.size) h' := by
  induction t with
  | leaf =>
    intro p a h ht ha hy
    obtain rfl := ht
    refine call_of layOk 55 Tryz.func216 Tryz.ntmps216 rfl rfl rfl rfl ?_
    exact wp_brT rfl (wp_done ⟨rfl, rfl, ha⟩)
  | node tl k v tr ihl ihr =>
    intro p a h ht ha hy
    obtain ⟨b, ql, qr, rfl, hbM, hb, hl, hr⟩ := ht
    have hl0 := Tr.length_toL tl
    refine call_of layOk 55 Tryz.func216 Tryz.ntmps216 rfl rfl rfl rfl ?_
    refine wp_brF rfl ?_
    refine wp_ord layOk mixed [(0, 11)] [] (by kernel_rfl) ?_
    repeat refine wp_brF rfl ?_
    refine wp_ord layOk mixed [(0, 27)] [] (by kernel_rfl) ?_
    refine wp_load (ld_of ((hJ _ _ ha).of hb hbM) rfl) ?_
    refine wp_call (ihl ql a h hl ha fun i x h hx => hy i x h ?_) ?_
    · have hi := (List.getElem?_eq_some_iff.1 hx).1
      simp only [Tr.toL]
      rw [List.getElem?_append_left hi]
      exact hx
    rintro _ h2 ⟨rfl, ha2⟩
    have hb2 := (hJ _ _ ha2).of hb hbM
    repeat refine wp_brT rfl ?_
    refine wp_load (ld_of hb2 rfl) ?_
    repeat refine wp_brT rfl ?_
    refine wp_load (ld_of hb2 rfl) ?_
    repeat refine wp_brT rfl ?_
    refine wp_round (hy tl.size (k, v) h2 (by simp [Tr.toL, ← hl0]) ha2) ?_
    rintro _ h3 ⟨rfl, ha3⟩
    have hb3 := (hJ _ _ ha3).of hb hbM
    repeat refine wp_brT rfl ?_
    refine wp_load (ld_of hb3 rfl) ?_
    repeat refine wp_brT rfl ?_
    refine wp_call (ihr qr (a + tl.size + 1) h3 hr ha3 fun i x h hx hj => ?_) ?_
    · have := hy (tl.size + 1 + i) x h (by
        simp only [Tr.toL]
        rw [List.getElem?_append_right (by omega), hl0, show tl.size + 1 + i - tl.size = i + 1 from by omega]
        exact hx) (by rw [show a + (tl.size + 1 + i) = a + tl.size + 1 + i from by omega]; exact hj)
      rw [show a + (tl.size + 1 + i) + 1 = a + tl.size + 1 + i + 1 from by omega] at this
      exact this
    rintro _ h4 ⟨rfl, ha4⟩
    repeat refine wp_brT rfl ?_
    refine wp_done ⟨rfl, rfl, ?_⟩
    simp only [Tr.size]
    rw [show a + (tl.size + tr.size + 1) = a + tl.size + 1 + tr.size from by omega]
    exact ha4
theorem all_c (p : Option Addr) (h : Hp) : Call c Tryz.prog 168 #[.agg #[.pointer p]] h fun v h' => ∃ b, v = .func (.func 215) #[] #[.pointer (some ⟨b, 0, none⟩)] ∧ New h h' b (.cells #[.pointer p] 240) := by
  refine call_of layOk 4 Tryz.func168 Tryz.ntmps168 rfl rfl rfl rfl ?_
  refine wp_new ?_
  intro b h' hN
  exact wp_done ⟨rfl, b, rfl, hN⟩
theorem it_c (M : List Nat) (h0 : Hp) (xs : List (Int × Int)) (p : Option Addr) (bm : Nat) (hm : Mp M h0 p xs) (hb : h0[bm]? = some (.cells #[.pointer p] 240 (0, 0))) (hbM : bm ∉ M) (l : Nat) (J : Nat → Hp → Prop) (hJ : ∀ i h, J i h → Chg M h0 h) (h : Hp) (ha : J 0 h)
    (hy : ∀ i x h, (xs.map pr)[i]? = some x → J i h → Yield c Tryz.prog l x.toArray h fun r h' => r = .bool true ∧ J (i + 1) h') :
    Call c Tryz.prog 215 #[.func (.yield l) #[] #[], .pointer (some ⟨bm, 0, none⟩)] h fun _ h' => J (xs.map pr).length h' := by
  obtain ⟨t, ht, rfl, hs⟩ := hm
  refine call_of layOk 7 Tryz.func215 Tryz.ntmps215 rfl rfl rfl rfl ?_
  refine wp_load (ld_of ((hJ _ _ ha).of hb hbM) rfl) ?_
  refine wp_call (walk_c M l h0 J hJ t p 0 h ht ha fun i x h hx hj => ?_) ?_
  · have := hy i (pr x) h (by simp [hx]) (by rw [Nat.zero_add] at hj; exact hj)
    rw [Nat.zero_add]
    exact this
  rintro _ h4 ⟨rfl, ha4⟩
  refine wp_done ⟨rfl, ?_⟩
  rw [List.length_map, Tr.length_toL, ← Nat.zero_add t.size]
  exact ha4
end Go.Xe.II
