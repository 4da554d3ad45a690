/- The move lot. -/
import Derived.Test.YtebbgoklldmkiaaGreatQ33
import Derived.Test.YtebbgoklldmkiaaGreatQ23
namespace Go.Xe
open Go Go.Proofs
set_option maxRecDepth 20000
variable {c : World}
theorem keepAll_snoc (F : BaleR → BaleR) : ∀ (l : List BaleR) (b : BaleR) (σ : StateR), keepAll F (l ++ [b]) σ = keepS (keepAll F l σ) (F b)
  | [], _, _ => rfl
  | x :: l, b, σ => by simp only [List.cons_append, keepAll]; exact keepAll_snoc F l b _
theorem keepAll_take (F : BaleR → BaleR) (l : List BaleR) (j : Nat) (b : BaleR) (hj : l[j]? = some b) (σ : StateR) : keepAll F (l.take (j + 1)) σ = keepS (keepAll F (l.take j) σ) (F b) := by
  rw [List.take_add_one, hj]
  exact keepAll_snoc F _ _ _
theorem keepAll_len (F : BaleR → BaleR) : ∀ (l : List BaleR) (σ : StateR), (keepAll F l σ).bales.length ≤ σ.bales.length + l.length
  | [], σ => Nat.le_refl _
  | p :: l, σ => by
    have h1 := keepAll_len F l (keepS σ (F p))
    have h2 := length_insL (lt := ltI) (k := (F p).no) (v := F p) σ.bales
    simp only [keepAll, List.length_cons]
    unfold keepS at h1 ⊢
    dsimp only at h1
    omega
theorem keepAll_rest (F : BaleR → BaleR) : ∀ (l : List BaleR) (σ : StateR), (keepAll F l σ).lots = σ.lots ∧ (keepAll F l σ).totals = σ.totals ∧ (keepAll F l σ).clips = σ.clips ∧ (keepAll F l σ).names = σ.names
  | [], _ => ⟨rfl, rfl, rfl, rfl⟩
  | p :: l, σ => keepAll_rest F l (keepS σ (F p))
theorem BalOk.fields {M : List Nat} {h : Hp} {r : BaleR} {q : BalP} (x : BalOk M h r q) (r' : BaleR) (h1 : r'.parts = r.parts) (h2 : r'.from_ = r.from_) : BalOk M h r' q := ⟨h1 ▸ x.1, h2 ▸ x.2⟩
theorem several_len {bs : List (Int × BaleR)} {all : List Int} : ∀ (l : List Int) (i : Nat) (out L : List BaleR) (e : Int), sevGo bs all i l out = (e, L) → L.length ≤ out.length + l.length
  | [], i, out, L, e, h => by
    unfold sevGo at h
    cases hx : (out.all fun b => kindB b.kind ((out.head?.getD zBaleR).kind)) with
    | true => rw [hx] at h; cases h; exact Nat.le_refl _
    | false => rw [hx] at h; cases h; exact Nat.zero_le _
  | no :: l, i, out, L, e, h => by
    unfold sevGo at h
    dsimp only at h
    split at h
    · cases h; exact Nat.zero_le _
    · split at h
      · cases h; exact Nat.zero_le _
      · split at h
        · cases h; exact Nat.zero_le _
        · have := several_len l _ _ _ _ h
          simp only [List.length_append, List.length_cons, List.length_nil] at this ⊢
          omega
theorem SlAt.offTy {α : Type} {e sz : Nat} {enc : α → List Value} {M : List Nat} {h h' : Hp} {a : Option Addr} {cap : Nat} {l : List α} {b0 : Nat} {cs0 : Array Value} {T : Nat} {fz : Nat × Nat}
    (x : Chg [b0] h h') (hb : h[b0]? = some (.cells cs0 T fz)) (hT : T ≠ e) (y : SlAt e sz enc M h a cap l) : SlAt e sz enc M h' a cap l := by
  rcases y with y | ⟨b, o, cs, h1, h2, h3, h4⟩
  · exact .inl y
  · exact .inr ⟨b, o, cs, h1, h2, x.of h3 (fun hm => ne_of_ty hb h3 hT (List.mem_singleton.1 hm).symm), h4⟩
theorem lot_x (M Mn : List Nat) (sb : Nat) (p : StP) (σ : StateR) (m : MoveR) (a : Option Addr) (cap : Nat) (h : Hp) (y : SC M sb h p σ) (hz : SizeW σ) (hn : IntsAt Mn h a cap m.nos) :
    Call c Tryz.prog 121 #[.pointer (some ⟨sb, 0, none⟩), vMove m a cap] h (StepOk M sb h (lotF σ m)) := by
  have hspl : lotF σ m = lotF σ m := rfl
  conv at hspl => rhs; unfold lotF
  obtain ⟨ys0, hm0, ha0⟩ := y.ok.lots
  have hgv : ∃ x, SL.getV m.name ys0 = .tuple #[.pointer x, .bool (getL eqS m.name σ.lots).isSome] := by
    unfold SL.getV
    rcases ha0.get eqS m.name with ⟨e1, e2⟩ | ⟨b, r, e1, e2, _⟩
    · rw [e1, e2]; exact ⟨none, rfl⟩
    · rw [e1, e2]; exact ⟨_, rfl⟩
  obtain ⟨xg, hgv⟩ := hgv
  refine call_of layOk 89 Tryz.func121 Tryz.ntmps121 rfl rfl rfl rfl ?_
  refine wp_new ?_
  intro mb h1 hN
  have hc1 := hN.chg []
  have y1 := y.ext hc1
  have hget := SL.get_c (c := c) M ys0 m.name p.l h1 (hm0.ext hc1)
  rw [hgv] at hget
  refine wp_ord layOk mixed [(0, 11)] [] (by kernel_rfl) ?_
  refine wp_load (ld_of y1.blk rfl) ?_
  refine wp_load (ld_of hN.here rfl) ?_
  refine wp_call hget ?_
  rintro _ h2 ⟨rfl, hc2⟩
  have hc02 := hc1.trans hc2
  have hmb2 := hc2.of hN.here (by simp)
  refine wp_load (ld_of hmb2 rfl) ?_
  refine wp_call (name_c m.name h2) ?_
  rintro _ h2 ⟨rfl, rfl⟩
  refine wp_br (fun g1 => ?_) (fun g1 => ?_)
  · have d1 : (!nameB m.name) = true := g1
    rw [if_pos (by simpa using d1)] at hspl
    exact wp_done ⟨rfl, (y.ext hc02).step (hc02.mono (by simp)) hspl⟩
  · have d1 : (!nameB m.name) = false := g1
    rw [if_neg (by simpa using d1)] at hspl
    refine wp_br (fun g2 => ?_) (fun g2 => ?_)
    · have d2 : (getL eqS m.name σ.lots).isSome = true := g2
      rw [if_pos d2] at hspl
      exact wp_done ⟨rfl, (y.ext hc02).step (hc02.mono (by simp)) hspl⟩
    · have d2 : (getL eqS m.name σ.lots).isSome = false := g2
      rw [if_neg (by rw [d2]; simp)] at hspl
      refine wp_load (v := .slice a m.nos.length cap) (ld_of hmb2 rfl) ?_
      refine wp_br (fun g3 => ?_) (fun g3 => ?_)
      · have d3 : (m.nos.length : Int) > 16 := of_decide_eq_true g3
        rw [if_pos (by omega)] at hspl
        exact wp_done ⟨rfl, (y.ext hc02).step (hc02.mono (by simp)) hspl⟩
      · have d3 : ¬ (m.nos.length : Int) > 16 := of_decide_eq_false g3
        rw [if_neg (by omega)] at hspl
        refine wp_load (v := .slice a m.nos.length cap) (ld_of hmb2 rfl) ?_
        refine wp_br (fun g4 => ?_) (fun g4 => ?_)
        · have d4 : ((m.nos.length : Int) == 0) = true := g4
          have d4' : m.nos.length = 0 := by simpa using d4
          rw [if_pos d4'] at hspl
          exact wp_done ⟨rfl, (y.ext hc02).step (hc02.mono (by simp)) hspl⟩
        · have d4 : ((m.nos.length : Int) == 0) = false := g4
          have d4' : ¬ m.nos.length = 0 := by simpa using d4
          rw [if_neg d4'] at hspl
          refine wp_load (v := .slice a m.nos.length cap) (ld_of hmb2 rfl) ?_
          refine wp_call (several_x M Mn sb p σ m.nos a cap h2 (y.ext hc02) (hn.ext hc02) (by omega)) ?_
          rintro _ h3 ⟨L, e, aL, capL, blkL, rfl, hsev, hoL, hL, hc3, hfL⟩
          have hLlen : L.length ≤ 16 := by
            have hsev' : sevGo σ.bales m.nos 0 m.nos [] = (e, L.map (·.1)) := hsev
            have := several_len m.nos 0 [] (L.map (·.1)) e hsev'
            rw [List.length_map] at this
            simp at this
            omega
          rw [hsev] at hspl
          dsimp only at hspl
          have hc03 := hc02.trans hc3
          have hmb3 := hc3.of hmb2 (by simp)
          have y3 := y.ext hc03
          refine wp_br (fun g5 => ?_) (fun g5 => ?_)
          · have d5 : (e != 0) = true := g5
            have d5' : e ≠ 0 := by simpa using d5
            rw [if_pos d5'] at hspl
            exact wp_done ⟨rfl, y3.step (hc03.mono (by simp)) hspl⟩
          · have d5 : (e != 0) = false := g5
            have d5' : e = 0 := by simpa using d5
            rw [if_neg (by simpa using d5')] at hspl
            have hlen := SL.mlen_c (c := c) M ys0 p.l h3 (hm0.ext hc03)
            rw [ha0.len] at hlen
            refine wp_load (ld_of y3.blk rfl) ?_
            refine wp_call hlen ?_
            rintro _ h4 ⟨rfl, hc4⟩
            have hc04 := hc03.trans hc4
            have y4 := y.ext hc04
            have hmb4 := hc4.of hmb3 (by simp)
            refine wp_br (fun g6 => ?_) (fun g6 => ?_)
            · have d6 : (σ.lots.length : Int) ≥ 64 := of_decide_eq_true g6
              rw [if_pos (by omega)] at hspl
              exact wp_done ⟨rfl, y4.step (hc04.mono (by simp)) hspl⟩
            · have d6 : ¬ (σ.lots.length : Int) ≥ 64 := of_decide_eq_false g6
              rw [if_neg (by omega)] at hspl
              have hsbM : sb ∈ M := y.mem
              have hsm : ∀ k, k ∈ [sb] → k ∈ M := fun k hk => by rw [List.mem_singleton] at hk; rw [hk]; exact hsbM
              have hmbs : mb ∉ [sb] := y.nin hN.le
              have hoL4 := hoL.ext hc4
              have hL4 := hL.ext hc4
              have hLs : ∀ g, blkL = some g → g ∉ [sb] := fun g hg => y.nin (Nat.le_trans hc02.size (hfL g hg))
              have hmblt := (Array.getElem?_eq_some_iff.1 hmb4).1
              refine wp_loopK layOk [59, 11] 60 70 rfl [0, 3, 57, 58] [.pointer (some ⟨sb, 0, none⟩), .pointer (some ⟨mb, 0, none⟩), .slice aL L.length capL, .int .i64 L.length] rfl [] rfl
                (fun k vals h' => ∃ (j : Nat) (u : Value), vals = [.int .i64 j, u] ∧ j + k = L.length ∧ Chg [sb] h4 h' ∧ ∃ p', SC M sb h' p' (keepAll (fun b => { b with state := 1, lot := m.name }) ((L.map (·.1)).take j) σ)) L.length ⟨0, undef, rfl, by omega, Chg.refl _ _, p, y4⟩ ?_
              rintro ρ0 k g vals h5 - ⟨j, u, rfl, hjk, hc5, p5, y5⟩
              have hmb5 := hc5.of hmb4 hmbs
              refine wp_br (fun g7 => ?_) (fun g7 => ?_)
              · have hj' : (j : Int) < (L.length : Int) := of_decide_eq_true g7
                clear g7
                have hj : j < L.length := by omega
                have hje := List.getElem?_eq_getElem hj
                have hmem := List.getElem_mem hj
                generalize L[j] = x at hje hmem
                obtain ⟨r, q⟩ := x
                have hjm : (L.map (·.1))[j]? = some r := by rw [List.getElem?_map, hje]; rfl
                have hoL5 := hoL4.chg hc5 hLs
                have hq5 : BalOk M h5 r q := (hL4 _ hmem).chg hc5 hsm
                obtain ⟨b, rfl, rfl⟩ := hoL5.ptr (i := ti42) hj
                refine wp_chk ⟨by omega, by omega⟩ ?_
                refine wp_load (hoL5.ld1 (i := ti42) enBale hje) ?_
                refine wp_new ?_
                intro bx h6 hN6
                refine wp_store hN6.here (by rfl) ?_
                intro h7 hU7
                have hc7 : Chg [] h5 h7 := hU7.chgGe (hN6.chg []) hN6.le
                have y7 := (y5.new hN6).upd hU7 (by simp) (y5.ne hN6.le)
                have hq7 : BalOk (bx :: M) h7 r q := (hq5.push hN6.le).ext hc7
                have hmbx : mb ∉ [bx] := fun hm => by
                  have h1 := List.mem_singleton.1 hm
                  have h2 := hN6.le
                  have h3 := hc5.size
                  omega
                refine wp_ordD layOk mixed [bx] [(0, 5)] [3] (by kernel_rfl) ?_
                refine wp_chk hmbx ?_
                refine wp_load (ld_of (hc7.of hmb5 (by simp)) rfl) ?_
                refine wp_chk (by simp) ?_
                refine wp_store hU7.here (by rfl) ?_
                intro h8 hU8
                refine wp_store hU8.here (by rfl) ?_
                intro h9 hU9
                have hx9 : Chg [bx] h7 h9 := (hU8.chg (by simp)).trans (hU9.chg (by simp))
                have y9 := (y7.upd hU8 (by simp) (y5.ne hN6.le)).upd hU9 (by simp) (y5.ne hN6.le)
                have hq9 : BalOk (bx :: M) h9 r q := hq7.chg hx9 (by simp)
                have hll := keepAll_len (fun b => { b with state := 1, lot := m.name }) ((L.map (·.1)).take j) σ
                rw [List.length_take, List.length_map] at hll
                refine wp_load (v := vBale { r with state := 1, lot := m.name } q) (ld_of hU9.here rfl) ?_
                refine wp_call (keep_x { r with state := 1, lot := m.name } q y9 (hq9.fields _ rfl rfl) (by have := hz.bales; omega)) ?_
                rintro _ h10 ⟨p10, y10, hc10⟩
                rw [← keepAll_take (fun b => { b with state := 1, lot := m.name }) (L.map (·.1)) j r hjm] at y10
                have hcc : Chg [sb] h4 h10 := ((hc5.trans (hc7.mono (by simp))).fresh hx9 (fun k hk => .inr (by rw [List.mem_singleton] at hk; rw [hk]; exact Nat.le_trans hc5.size hN6.le))).trans hc10
                refine wp_done ⟨k - 1, by omega, j + 1, .pointer (some ⟨bx, 0, none⟩), ?_, by omega, hcc, p10, y10.sub (fun k hk => List.mem_cons_of_mem _ hk) hsbM⟩
                exact congrArg (fun z => [Value.int .i64 z, .pointer (some ⟨bx, 0, none⟩)]) (by rw [w64 (by omega) (by omega)]; omega)
              · have hj' : ¬ ((j : Int) < (L.length : Int)) := of_decide_eq_false g7
                clear g7
                rw [List.take_of_length_le (by rw [List.length_map]; omega)] at y5
                have hlots := (keepAll_rest (fun b => { b with state := 1, lot := m.name }) (L.map (·.1)) σ).1
                revert hspl y5 hlots
                generalize keepAll (fun b => { b with state := 1, lot := m.name }) (L.map (·.1)) σ = σ1
                intro hspl y5 hlots
                have hc05 : Chg [sb] h h5 := (hc04.mono (by simp)).trans hc5
                have hn5 : IntsAt [] h5 a cap m.nos := ((hn.ext hc04).offTy hc5 y4.blk (by decide)).sub (by simp)
                obtain ⟨ys, hm5, ha5⟩ := y5.ok.lots
                have hzl : ys.length < 900000 := by rw [ha5.len, hlots]; have := hz.lots; omega
                refine wp_done ?_
                show X.wp _ _ _ _ _ _ _
                refine wp_ord layOk mixed [(0, 18)] [11, 12, 14] (by kernel_rfl) ?_
                refine wp_load (ld_of y5.blk rfl) ?_
                refine wp_load (v := .string m.name) (ld_of hmb5 rfl) ?_
                refine wp_load (v := .string m.name) (ld_of hmb5 rfl) ?_
                refine wp_load (v := .slice a m.nos.length cap) (ld_of hmb5 rfl) ?_
                refine wp_callE (values_c m.nos a cap h5) ?_
                rintro _ h6 ⟨bv, rfl, hN6⟩
                refine ⟨hN6.chg _, ?_⟩
                refine wp_callE (sorted_c [] m.nos a cap bv (by omega) h6 (hn5.ext (hN6.chg [])) hN6.here) ?_
                rintro _ h7 ⟨a7, cap7, blk7, rfl, ho7, hc7, hf7⟩
                refine ⟨hc7, ?_⟩
                refine wp_new ?_
                intro bl h8 hN8
                have hc57 : Chg [] h5 h7 := (hN6.chg []).trans hc7
                have hc58 : Chg [] h5 h8 := hc57.trans (hN8.chg [])
                have y8 := y5.ext hc58
                have hf7' : Fresh h5 blk7 := hf7.back (hN6.chg []).size
                have hlot : LotAt M h8 bl ⟨m.name, sortI m.nos, false⟩ := ⟨a7, cap7, (y5.ext hc57).notM hN8.le, by
                  rw [hN8.here]
                  unfold elLot
                  rw [sortI_len]
                  rfl, (ho7.ext (hN8.chg [])).sl (hf7'.notin y5.bd)⟩
                refine wp_call (SL.mput_c M ys m.name bl p5.l h8 y8.bd (hm5.ext hc58) hzl) ?_
                rintro _ h9 ⟨q9, rfl, hc9, hm9⟩
                have y9 := y8.ext hc9
                refine wp_store y9.blk (by rfl) ?_
                intro h10 hU10
                have hx10 : Chg [sb] h9 h10 := hU10.chg (by simp)
                have hok := y9.ok.chg hx10 hsm
                have ha9 := ((ha5.mono fun _ _ z => (z.chg (hc58.trans hc9) (by simp))).ins ltS m.name (hlot.chg hc9 (by simp))).mono fun _ _ z => z.chg hx10 hsm
                have hfin : StepOk M sb h (lotF σ m) (.tuple #[.int .i64 0, .int .i64 0]) h10 := by
                  rw [hspl]
                  exact ⟨rfl, { p5 with l := q9 }, hU10.here, ⟨hok.clips, hok.names, hok.bales, ⟨_, hm9.chg hx10 hsm, ha9⟩, hok.totals⟩, (hc05.trans ((hc58.trans hc9).mono (by simp))).trans hx10⟩
                exact wp_done ⟨rfl, hfin⟩
end Go.Xe
