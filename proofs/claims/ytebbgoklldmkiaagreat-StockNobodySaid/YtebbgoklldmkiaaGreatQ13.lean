/- Slices: a field of an element is read, is written. -/
import Derived.Test.YtebbgoklldmkiaaGreatQ12
namespace Go.Xe
open Go Go.Proofs

def scalar (t : TI) : Bool := match t.desc with | .struct _ | .array _ _ => false | _ => Nat.beq t.size 1

theorem rd_scalar {t : TI} (ht : scalar t = true) {cs : List Value} {o : Nat} {v : Value} (h : cs[o]? = some v) : rd cs o t = some v := by
  unfold scalar at ht
  unfold rd
  split at ht
  · cases ht
  · cases ht
  · rename_i h1 h2
    split
    · rename_i hx; exact absurd hx (h1 _)
    · rename_i hx; exact absurd hx (h2 _ _)
    · exact h

section
variable {α : Type} {e : Nat} {enc : α → List Value} {i : TI} {M : List Nat} {h : Hp} {a : Option Addr} {cap : Nat} {l : List α} {blk : Option Nat}
theorem SlAt.ptr (y : SlAt e i.size enc M h a cap l) {j : Nat} (hj : j < l.length) : ∃ b o, a = some ⟨b, o, none⟩ := by
  rcases y with ⟨_, _, rfl⟩ | ⟨b, o, cs, rfl, _⟩
  · simp at hj
  · exact ⟨b, o, rfl⟩
theorem OwnAt.ptr (y : OwnAt e i.size enc h a cap l blk) {j : Nat} (hj : j < l.length) : ∃ b, a = some ⟨b, 0, none⟩ ∧ blk = some b := by
  rcases y with ⟨_, _, rfl, _⟩ | ⟨b, cs, rfl, h2, _⟩
  · simp at hj
  · exact ⟨b, rfl, h2⟩
theorem SlAt.ld1 (hi : EncOk i enc) {b o : Nat} (y : SlAt e i.size enc M h (some ⟨b, o, none⟩) cap l) {j : Nat} {x : α} (hj : l[j]? = some x) : Ld h b (o + j * i.size) i (valOf i (enc x)) := by
  obtain ⟨b', o', hb, _, hld⟩ := y.ld hi rfl hj
  injection hb with hb
  injection hb with h1 h2
  subst h1; subst h2
  exact hld
theorem SlAt.ldF (hi : EncOk i enc) {tf : TI} (htf : scalar tf = true) {b o : Nat} (y : SlAt e i.size enc M h (some ⟨b, o, none⟩) cap l) {j : Nat} {x : α} (hj : l[j]? = some x) {k : Nat} {v : Value} (hk : (enc x)[k]? = some v) : Ld h b (o + j * i.size + k) tf v := by
  rcases y with ⟨h1, _⟩ | ⟨b', o', cs, h1, h2, h3, h4, h5, h6⟩
  · cases h1
  · injection h1 with h1
    injection h1 with hbb hoo
    subst hbb; subst hoo
    refine ⟨cs, e, (0, 0), h3, rd_scalar htf ?_⟩
    have hjl := (List.getElem?_eq_some_iff.1 hj).1
    have hkl := (List.getElem?_eq_some_iff.1 hk).1
    rw [hi.len] at hkl
    have hf := flat_at hi.len l j x hj
    have h9 : (j + 1) * i.size ≤ l.length * i.size := Nat.mul_le_mul_right _ hjl
    rw [Nat.add_mul] at h9
    rw [← hf, ← h6, List.getElem?_take, if_pos hkl, List.getElem?_drop, List.getElem?_take, if_pos (by omega), List.getElem?_drop] at hk
    rw [Nat.add_assoc]
    exact hk
theorem OwnAt.ld1 (hi : EncOk i enc) {b : Nat} (y : OwnAt e i.size enc h (some ⟨b, 0, none⟩) cap l blk) {j : Nat} {x : α} (hj : l[j]? = some x) : Ld h b (0 + j * i.size) i (valOf i (enc x)) :=
  (y.sl (M := []) (by simp)).ld1 hi hj
theorem OwnAt.ldF (hi : EncOk i enc) {tf : TI} (htf : scalar tf = true) {b : Nat} (y : OwnAt e i.size enc h (some ⟨b, 0, none⟩) cap l blk) {j : Nat} {x : α} (hj : l[j]? = some x) {k : Nat} {v : Value} (hk : (enc x)[k]? = some v) : Ld h b (0 + j * i.size + k) tf v :=
  (y.sl (M := []) (by simp)).ldF hi htf hj hk
end

section
variable {L : Lay} {P : Program} {c : World} {ro : Option Nat} {n : Nat} {h : Hp} {Q : Exit → St → Hp → Prop} {α : Type}
theorem wp_storeFld {e b : Nat} {i tf : TI} {enc : α → List Value} (hi : EncOk i enc) (htf : tf.size = 1) {cap : Nat} {l : List α} {blk : Option Nat} (ho : OwnAt e i.size enc h (some ⟨b, 0, none⟩) cap l blk) {j : Nat} {x0 : α} (hj : l[j]? = some x0) (x : α) {k : Nat} {v : Value}
    (hv : v.cells = #[v]) (hx : enc x = (enc x0).set k v) (hkl : k < i.size) {kx : X} (hk : ∀ h', OwnAt e i.size enc h' (some ⟨b, 0, none⟩) cap (l.set j x) blk → Chg [b] h h' → blk = some b → h'.size = h.size → kx.wp c P ro n h' Q) : (X.store b (0 + j * i.size + k) tf v kx).wp c P ro n h Q := by
  rcases ho with ⟨h1, _⟩ | ⟨g, cs, h1, rfl, h3, h4, h5, h6, h7⟩
  · cases h1
  · have hg : b = g := by injection h1 with h1; injection h1
    subst hg
    have hjl := (List.getElem?_eq_some_iff.1 hj).1
    have hfit : (j + 1) * i.size ≤ cap * i.size := Nat.mul_le_mul_right _ (by omega)
    have hfit2 : (j + 1) * i.size ≤ l.length * i.size := Nat.mul_le_mul_right _ (by omega)
    have hfit3 : l.length * i.size ≤ cap * i.size := Nat.mul_le_mul_right _ h4
    rw [Nat.add_mul, Nat.one_mul] at hfit hfit2
    have hone : v.oneCell' = true := by
      refine hi.cell x v ?_
      rw [hx]
      have : k < (enc x0).length := by rw [hi.len]; exact hkl
      exact List.mem_iff_getElem.2 ⟨k, by simpa using this, by simp⟩
    refine wp_store (cs := cs.toList) h3 ?_ ?_
    · simp only [okSt, Bool.and_eq_true, List.all_eq_true, hv, htf]
      exact ⟨⟨rfl, Nat.ble_eq_true_of_le (by simpa using by omega)⟩, fun u hu => by rcases List.mem_singleton.1 hu with rfl; exact hone⟩
    · intro h' hU
      rw [hv] at hU
      refine hk h' (.inr ⟨b, _, rfl, rfl, hU.here, by simpa using h4, h5, ?_, ?_⟩) (hU.chg (by simp)) rfl hU.size
      · simp only [List.size_toArray, wrAt_length, Array.length_toList]; exact h6
      · have hl : cs.toList.length = cap * i.size := by simpa using h6
        have hlf := flat_len hi.len l
        have hfx := flat_at hi.len l j x0 hj
        rw [List.length_set, flat_set hi.len l j x hjl, hx, ← hfx, ← h7]
        rw [wrAt_eq _ _ _ (by simp; omega), Nat.zero_add]
        apply List.ext_getElem?
        intro q
        simp only [List.getElem?_take, List.getElem?_append, List.length_append, List.length_take, List.length_drop, List.getElem?_drop, List.getElem?_set, List.length_set, List.length_cons, List.length_nil, hl]
        have e1 : min (j * i.size + k) (cap * i.size) = j * i.size + k := Nat.min_eq_left (by omega)
        have e2 : min (j * i.size) (l.length * i.size) = j * i.size := Nat.min_eq_left (by omega)
        have e3 : min (l.length * i.size) (cap * i.size) = l.length * i.size := Nat.min_eq_left (by omega)
        have e5 : min i.size (l.length * i.size - j * i.size) = i.size := Nat.min_eq_left (by omega)
        simp only [e1, e2, e3, e5]
        generalize j * i.size = A at *
        generalize l.length * i.size = B at *
        generalize i.size = S at *
        by_cases h1 : q < A
        · have f1 : q < B := by omega
          have f2 : q < A + k + (0 + 1) := by omega
          have f3 : q < A + k := by omega
          have f4 : q < A + S := by omega
          simp only [f1, f2, f3, f4, h1, if_true]
        · by_cases h2 : q < A + k
          · have f1 : q < B := by omega
            have f2 : q < A + k + (0 + 1) := by omega
            have f4 : q < A + S := by omega
            have f5 : ¬ k = q - A := by omega
            have f6 : q - A < S := by omega
            have f7 : A + (q - A) = q := by omega
            simp only [f1, f2, h2, f4, f5, f6, f7, h1, if_true, if_false]
          · by_cases h3 : q = A + k
            · subst h3
              have f1 : A + k < B := by omega
              have f2 : A + k < A + k + (0 + 1) := by omega
              have f4 : A + k < A + S := by omega
              have f5 : k = A + k - A := by omega
              have f6 : A + k - (A + k) = 0 := by omega
              simp only [f1, f2, f4, h1, h2, if_true, if_false, f6, ← f5, hkl]
              rfl
            · by_cases h4 : q < A + S
              · have f1 : q < B := by omega
                have f2 : ¬ q < A + k + (0 + 1) := by omega
                have f5 : ¬ k = q - A := by omega
                have f6 : q - A < S := by omega
                have f7 : A + (q - A) = q := by omega
                have f8 : A + k + (0 + 1) + (q - (A + k + (0 + 1))) = q := by omega
                simp only [f1, f2, h4, f5, f6, f7, f8, h1, if_true, if_false]
              · have f2 : ¬ q < A + k + (0 + 1) := by omega
                have f7 : A + S + (q - (A + S)) = q := by omega
                have f8 : A + k + (0 + 1) + (q - (A + k + (0 + 1))) = q := by omega
                simp only [f2, h4, f7, f8, if_false]
theorem Ld.at {b o s j : Nat} {z : Int} {i : TI} {v : Value} (hz : z = (j : Int)) (x : Ld h b (o + j * s) i v) : Ld h b (o + z.toNat * s) i v := by subst hz; exact x
theorem wp_storeElZ {e b : Nat} {i : TI} {enc : α → List Value} (hi : EncOk i enc) {cap : Nat} {l : List α} {blk : Option Nat} (ho : OwnAt e i.size enc h (some ⟨b, 0, none⟩) cap l blk) {z : Int} (j : Nat) (hz : z = (j : Int)) (hj : j < l.length) (x : α) {v : Value}
    (hv : v.cells.toList = enc x) {k : X} (hk : ∀ h', OwnAt e i.size enc h' (some ⟨b, 0, none⟩) cap (l.set j x) blk → Chg [b] h h' → blk = some b → h'.size = h.size → k.wp c P ro n h' Q) : (X.store b (0 + z.toNat * i.size) i v k).wp c P ro n h Q := by
  subst hz
  exact wp_storeEl hi ho hj x hv hk
end
end Go.Xe
