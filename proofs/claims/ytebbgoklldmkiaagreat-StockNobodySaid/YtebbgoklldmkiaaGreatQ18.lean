/- Lemmas on the way: stock.less. Contains, Index. -/
import Derived.Test.YtebbgoklldmkiaaGreatQ17
import Derived.Test.YtebbgoklldmkiaaGreatQ12
namespace Go.Xe
open Go Go.Proofs
set_option maxRecDepth 20000
variable {c : World}
def subG : List PartR → List PartR → List PartR
  | p :: l, q :: k => ⟨p.clip, p.grams - q.grams⟩ :: subG l k
  | _, _ => []
theorem subG_len : ∀ (l k : List PartR), k.length = l.length → (subG l k).length = l.length
  | [], _, _ => by simp [subG]
  | p :: l, [], h => by simp at h
  | p :: l, q :: k, h => by simp [subG, subG_len l k (by simpa using h)]
theorem subG_get : ∀ (l k : List PartR) (j : Nat) (p q : PartR), l[j]? = some p → k[j]? = some q → (subG l k)[j]? = some ⟨p.clip, p.grams - q.grams⟩
  | [], _, _, _, _, h, _ => by simp at h
  | p :: l, [], _, _, _, _, h => by simp at h
  | p :: l, q :: k, 0, _, _, h1, h2 => by
    simp only [List.getElem?_cons_zero, Option.some.injEq] at h1 h2
    subst h1; subst h2; rfl
  | p :: l, q :: k, j + 1, _, _, h1, h2 => by
    simp only [List.getElem?_cons_succ] at h1 h2
    simp only [subG, List.getElem?_cons_succ]
    exact subG_get l k j _ _ h1 h2
def lessL (l k : List PartR) : List PartR := solidL (subG l k)

theorem less_c (M : List Nat) (l tk : List PartR) (a ak : Option Addr) (cap capk : Nat) (h : Hp) (hs : PartsAt M h a cap l) (hk : PartsAt M h ak capk tk) (hl : tk.length = l.length) (hz : l.length < 900000)
    (hw : ∀ p, p ∈ l → 0 ≤ p.grams ∧ p.grams ≤ 1073741824) (hwk : ∀ p, p ∈ tk → 0 ≤ p.grams ∧ p.grams ≤ 2147483648) :
    Call c Tryz.prog 160 #[.slice a l.length cap, .slice ak tk.length capk] h fun v h' => ∃ a' cap' blk, v = .slice a' (lessL l tk).length cap' ∧ PartsOwn h' a' cap' (lessL l tk) blk ∧ Chg [] h h' ∧ Fresh h blk := by
  have hsl := subG_len l tk hl
  refine call_of layOk 30 Tryz.func160 Tryz.ntmps160 rfl rfl rfl rfl ?_
  refine wp_call (clone104_c M l a cap h hs hz) ?_
  rintro _ h1 ⟨a5, cap5, blk5, rfl, ho5, hc1, hf5⟩
  refine wp_loopK layOk [11, 6] 12 27 rfl [1, 5, 9, 10] [.slice ak tk.length capk, .slice a5 l.length cap5, .slice a5 l.length cap5, .int .i64 l.length] rfl [] rfl (fun m vals h' => ∃ (k : Nat) (u : Value),
      vals = [.int .i64 k, u] ∧ k + m = l.length ∧ PartsOwn h' a5 cap5 ((subG l tk).take k ++ l.drop k) blk5 ∧ Chg blk5.toList h1 h') l.length ⟨0, undef, rfl, by omega, by simpa using ho5, Chg.refl _ _⟩ ?_
  rintro ρ1 m g1 vals h4 - ⟨k, u1, rfl, hm, ho4, hc4⟩
  have hcc : Chg [] h h4 := hc1.freshO hc4 hf5
  refine wp_br (fun h5 => ?_) (fun h5 => ?_)
  · have hk' : (k : Int) < (l.length : Int) := of_decide_eq_true h5
    clear h5
    have hkl : k < l.length := by omega
    have hke := List.getElem?_eq_getElem hkl
    have hkt : k < tk.length := by omega
    have hte := List.getElem?_eq_getElem hkt
    have hb1 := hw _ (List.getElem_mem hkl)
    have hb2 := hwk _ (List.getElem_mem hkt)
    have hpe : (subG l tk)[k]? = some ⟨l[k].clip, l[k].grams - tk[k].grams⟩ := subG_get _ _ _ _ _ hke hte
    obtain ⟨b5, rfl, rfl⟩ := ho5.ptr (i := ti129) hkl
    have hk4 := hk.ext hcc
    obtain ⟨bk, ok, rfl⟩ := hk.ptr (i := ti129) hkt
    have hcur : ((subG l tk).take k ++ l.drop k)[k]? = some l[k] := by
      rw [List.getElem?_append_right (by rw [List.length_take]; omega), List.length_take, Nat.min_eq_left (by omega), Nat.sub_self, List.getElem?_drop]
      exact hke
    have hwr : IntKind.i64.wrap (l[k].grams - tk[k].grams) = l[k].grams - tk[k].grams := w64 (by omega) (by omega)
    refine wp_ord layOk mixed [(0, 13)] [] (by kernel_rfl) ?_
    refine wp_chk ⟨by omega, by omega⟩ ?_
    refine wp_load (ho4.ldF (i := ti129) enPart (tf := ti3) rfl hcur (k := 1) rfl) ?_
    refine wp_chk ⟨by omega, by omega⟩ ?_
    refine wp_load (hk4.ldF (i := ti129) enPart (tf := ti3) rfl hte (k := 1) rfl) ?_
    refine wp_chk ⟨by omega, by omega⟩ ?_
    refine wp_storeFld (i := ti129) enPart rfl ho4 hcur ⟨l[k].clip, IntKind.i64.wrap (l[k].grams - tk[k].grams)⟩ (k := 1) rfl rfl (by decide) ?_
    intro h6 ho6 hc6 _ _
    rw [hwr, step_list _ _ _ _ hpe hkl hsl] at ho6
    refine wp_done ⟨m - 1, by omega, k + 1, .int .i64 k, ?_, by omega, ho6, hc4.trans hc6⟩
    exact congrArg (fun z => [Value.int .i64 z, .int .i64 k]) (by rw [w64 (by omega) (by omega)]; omega)
  · have hk' : ¬ ((k : Int) < (l.length : Int)) := of_decide_eq_false h5
    clear h5
    rw [List.take_of_length_le (by omega), List.drop_eq_nil_of_le (by omega), List.append_nil] at ho4
    have hso := solid_c (c := c) (subG l tk) a5 cap5 blk5 h4 ho4 (by omega)
    rw [hsl] at hso
    refine wp_done ?_
    show X.wp _ _ _ _ _ _ _
    refine wp_call hso ?_
    rintro _ h6 ⟨rfl, ho6, hc6⟩
    exact wp_done ⟨rfl, a5, cap5, blk5, rfl, ho6, hcc.freshO hc6 hf5, hf5⟩
end Go.Xe
namespace Go.Xe
open Go Go.Proofs
set_option maxRecDepth 20000
variable {c : World}
def firstAt (p : Int → Bool) (l : List Int) (r : Int) : Prop := (r = -1 ∧ ∀ x, x ∈ l → p x = false) ∨ ∃ (j : Nat) (x : Int), r = j ∧ l[j]? = some x ∧ p x = true
theorem index_c (M : List Nat) (l : List Int) (x : Int) (a : Option Addr) (cap : Nat) (h : Hp) (hs : IntsAt M h a cap l) (hz : l.length < 900000) :
    Call c Tryz.prog 233 #[.slice a l.length cap, .int .i64 x] h fun v h' => ∃ r, v = .int .i64 r ∧ h' = h ∧ firstAt (fun y => x == y) l r := by
  refine call_of layOk 19 Tryz.func233 Tryz.ntmps233 rfl rfl rfl rfl ?_
  refine wp_loopG layOk [8, 4, 5] 9 18 rfl (fun m vals h' => ∃ (j : Nat) (u v : Value), vals = [.int .i64 j, u, v] ∧ h' = h ∧ j + m = l.length ∧ ∀ (i : Nat) (y : Int), i < j → l[i]? = some y → (x == y) = false) l.length ⟨0, _, _, rfl, rfl, by omega, fun i y hi => by omega⟩ ?_
  rintro m g vals h' - ⟨j, u, v, rfl, rfl, hm, hno⟩
  refine wp_br (fun h1 => ?_) (fun h1 => ?_)
  · have hj : j < l.length := by simpa using h1
    obtain ⟨b, o, rfl, hb, hld⟩ := hs.ld (i := ti3) enI rfl (List.getElem?_eq_getElem hj)
    refine wp_chk ⟨by omega, by omega⟩ ?_
    refine wp_load hld ?_
    refine wp_br (fun h2 => ?_) (fun h2 => ?_)
    · refine wp_done ?_
      show X.wp _ _ _ _ _ _ _
      exact wp_done ⟨rfl, _, rfl, rfl, .inr ⟨j, l[j], rfl, List.getElem?_eq_getElem hj, h2⟩⟩
    · refine wp_done ⟨m - 1, by omega, j + 1, u, .int .i64 j, ?_, rfl, by omega, ?_⟩
      · exact congrArg (fun z => [Value.int .i64 z, u, Value.int .i64 j]) (by rw [w64 (by omega) (by omega)]; omega)
      · intro i y hi hy
        by_cases hij : i = j
        · subst hij
          rw [List.getElem?_eq_getElem hj] at hy
          cases hy
          exact h2
        · exact hno i y (by omega) hy
  · have hj : ¬ j < l.length := by simpa using h1
    refine wp_done ?_
    show X.wp _ _ _ _ _ _ _
    refine wp_done ⟨rfl, _, rfl, rfl, .inl ⟨rfl, fun y hy => ?_⟩⟩
    obtain ⟨i, hi, rfl⟩ := List.mem_iff_getElem.1 hy
    exact hno i _ (by omega) (List.getElem?_eq_getElem hi)
theorem contains_c (M : List Nat) (l : List Int) (x : Int) (a : Option Addr) (cap : Nat) (h : Hp) (hs : IntsAt M h a cap l) (hz : l.length < 900000) :
    Call c Tryz.prog 205 #[.slice a l.length cap, .int .i64 x] h fun v h' => v = .bool (l.contains x) ∧ h' = h := by
  refine call_of layOk 9 Tryz.func205 Tryz.ntmps205 rfl rfl rfl rfl ?_
  refine wp_call (index_c M l x a cap h hs hz) ?_
  rintro _ _ ⟨r, rfl, rfl, hr⟩
  refine wp_done ⟨rfl, congrArg Value.bool ?_, rfl⟩
  rcases hr with ⟨rfl, hn⟩ | ⟨j, y, rfl, hj, hp⟩
  · show decide _ = _
    rw [show decide ((-1 : Int) ≥ 0) = false from rfl]
    refine (Bool.eq_false_iff.2 fun hc => ?_).symm
    have := hn x (by simpa using hc)
    simp at this
  · show decide _ = _
    rw [show decide ((j : Int) ≥ 0) = true from by simp]
    have : y = x := by simpa using Eq.symm (by simpa using hp : x = y)
    subst this
    exact (by simpa using List.mem_of_getElem? hj : l.contains y = true).symm
end Go.Xe
