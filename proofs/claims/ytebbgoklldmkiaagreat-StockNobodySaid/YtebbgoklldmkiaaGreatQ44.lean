/- Views: Clips, Bales, Lots. -/
import Derived.Test.YtebbgoklldmkiaaGreatQ43
namespace Go.Xe
open Go Go.Proofs
set_option maxRecDepth 20000
variable {c : World}
theorem enClip : EncOk ti150 elClip := ⟨fun _ => rfl, by decide, rfl, fun x u hu => by
  simp only [elClip, List.mem_cons, List.not_mem_nil, or_false] at hu
  rcases hu with rfl | rfl | rfl <;> rfl, by decide⟩
abbrev ClipsOwn (h : Hp) (a : Option Addr) (cap : Nat) (l : List ClipR) (blk : Option Nat) := OwnAt 150 3 elClip h a cap l blk
theorem all2.at {K β γ : Type} {R : β → γ → Prop} : ∀ {ys : List (K × β)} {bs : List (K × γ)} (i : Nat) (y : K × β), all2 R ys bs → ys[i]? = some y → ∃ z, bs[i]? = some z ∧ y.1 = z.1 ∧ R y.2 z.2
  | [], [], i, y, _, h => by simp at h
  | (a, b) :: ys, (a', c) :: bs, 0, y, ⟨h1, h2, _⟩, h => by cases h; exact ⟨_, rfl, h1, h2⟩
  | (a, b) :: ys, (a', c) :: bs, i + 1, y, ⟨_, _, h3⟩, h => all2.at i y h3 h
/-- bales in memory of their own -/
def OwnAll (n : Nat) (h : Hp) (L : List (BaleR × BalP)) : Prop := ∀ x, x ∈ L → ∃ bp bf, PartsOwn h x.2.pa x.2.pc x.1.parts bp ∧ IntsOwn h x.2.fa x.2.fc x.1.from_ bf ∧ (∀ g, bp = some g → n ≤ g) ∧ ∀ g, bf = some g → n ≤ g
abbrev LotP := LotR × Option Addr × Nat
def encLot (x : LotP) : List Value := elLot x.1 x.2.1 x.2.2
theorem enLot : EncOk ti36 encLot := ⟨fun _ => rfl, by decide, rfl, fun x u hu => by
  simp only [encLot, elLot, List.mem_cons, List.not_mem_nil, or_false] at hu
  rcases hu with rfl | rfl | rfl <;> rfl, by decide⟩
abbrev LotsOwn (h : Hp) (a : Option Addr) (cap : Nat) (l : List LotP) (blk : Option Nat) := OwnAt 36 3 encLot h a cap l blk
def OwnLots (n : Nat) (h : Hp) (L : List LotP) : Prop := ∀ x, x ∈ L → ∃ b, IntsOwn h x.2.1 x.2.2 x.1.bales b ∧ ∀ g, b = some g → n ≤ g
theorem clips_c (M : List Nat) (h : Hp) (a : Option Addr) (p : StP) (ok : Bool) (σ : StateR) (hM : Bd M h) (y : VwIs h a p ok) (hσ : StOk M h p σ) (hz : σ.clips.length < 800000) :
    Call c Tryz.prog 33 #[.pointer a] h fun v h' => Chg [] h h' ∧ ∃ a' cap' blk', v = .slice a' σ.clips.length cap' ∧ ClipsOwn h' a' cap' (σ.clips.map Prod.snd) blk' ∧ Fresh h blk' := by
  refine call_ofM layOk 17 Tryz.func33 Tryz.ntmps33 rfl rfl rfl ?_
  refine wp_new ?_
  intro b3 h1 hN
  have hc1 := hN.chg []
  refine wp_call (state_c h1 a p ok (y.ext hc1)) ?_
  rintro _ h2 ⟨rfl, hc2⟩
  refine wp_call (CI.all_c p.c h2) ?_
  rintro _ h3 ⟨bA, rfl, hN3⟩
  have hc13 := hc2.trans (hN3.chg [])
  have hc03 := hc1.trans hc13
  have hb3 := hc13.of hN.here (by simp)
  have hb3lt := (Array.getElem?_eq_some_iff.1 hb3).1
  have hm3 : CI.Mp (b3 :: M) h3 p.c σ.clips := (hσ.push hN.le).clips.ext hc03
  have hA : bA ∉ b3 :: M := fun hm => by
    have h9 := hN3.le
    rcases List.mem_cons.1 hm with hm | hm
    · have := (Array.getElem?_eq_some_iff.1 (hc2.of hN.here (by simp))).1
      omega
    · have := hM bA hm
      have := hc1.size
      have := hc2.size
      omega
  refine wp_rangeF (gf := 110) (cap := #[.pointer (some ⟨bA, 0, none⟩)]) layOk rfl rfl (σ.clips.map CI.pr) (fun x hx => by
      obtain ⟨v, _, rfl⟩ := List.mem_map.1 hx
      rfl)
    (fun i h' => Coll 150 3 elClip 64 h3 b3 ((σ.clips.map Prod.snd).take i) h') (fun i ha hb o x hU => x.upd hb3lt (.inr rfl) hU) (fun h4 hc4 hs4 => Coll.start hb3 hc4 hs4) ?_ ?_ ?_
  · intro J h4 hc4 hJI hyl hJ0
    refine CI.it_c (b3 :: M) h3 σ.clips p.c bA hm3 hN3.here hA (h4.size - 1) J (fun i h' hj => ?_) h4 hJ0 hyl
    obtain ⟨_, _, _, z⟩ := hJI i h' hj
    exact z.chg.mono (fun k hk => by rw [List.mem_singleton] at hk; simp [hk])
  · rintro i x h4 d hx ⟨a3, cap3, blk3, z⟩ hld hdf
    rw [List.getElem?_map] at hx
    obtain ⟨e, he, rfl⟩ := Option.map_eq_some_iff.1 hx
    have hce : (σ.clips.map Prod.snd)[i]? = some e.2 := by rw [List.getElem?_map, he]; rfl
    have hi := (List.getElem?_eq_some_iff.1 he).1
    have htk : (σ.clips.map Prod.snd).take (i + 1) = (σ.clips.map Prod.snd).take i ++ [e.2] := by rw [List.take_add_one, hce]; rfl
    refine wp_new ?_
    intro b5 h5 hN5
    refine wp_store hN5.here (by rfl) ?_
    intro h6 hU6
    have hc46 : Chg [] h4 h6 := hU6.chgGe (hN5.chg []) hN5.le
    have hs4 := z.size
    have hl5 := hN5.le
    refine wp_done ⟨rfl, rfl, hc46.same _ (by omega) (by simp), fun h7 d' hU7 => ?_⟩
    have z7 := (z.ext hc46).upd hb3lt (.inr rfl) hU7
    have hb57 := hU7.of hU6.here (by omega)
    refine wp_load (ld_of z7.cell rfl) ?_
    refine wp_load (v := vClip e.2) (ld_of hb57 rfl) ?_
    refine wp_new ?_
    intro b8 h8 hN8
    have z8 := z7.ext (hN8.chg [])
    refine wp_append layOk (t := 64) rfl rfl rfl (i := ti150) enClip rfl rfl rfl z8.own (M := []) (l' := [e.2]) (.inr ⟨b8, 0, _, rfl, by simp, hN8.here, Nat.le_refl _, Nat.le_refl _, rfl⟩) (by rw [List.length_take, List.length_map, List.length_singleton]; omega) (by simp) ?_
    intro h9 a9 cap9 blk9 ho9 hc9 hb9
    rw [← htk] at ho9 ⊢
    refine wp_store (z8.cell' hc9 (by decide)) (by rfl) ?_
    intro h10 hU10
    obtain ⟨zf, keep⟩ := z8.step hb3lt ho9 hc9 hb9 hU10
    have hdf7 : h7[h3.size]? = some (.deferred (some [])) := hU7.of (hc46.of hdf (by simp)) (by omega)
    refine wp_done ⟨rfl, ⟨a9, cap9, blk9, zf⟩, ?_, keep _ _ (.inl rfl) (hN8.of hdf7)⟩
    have h77 : h7[h3.size + 1]? = some (.loop d') := hU7.here
    rw [h77]
    exact keep _ _ (.inr rfl) (hN8.of h77)
  · rintro h4 ⟨a3, cap3, blk3, z⟩ hdf
    have z' := z
    rw [List.length_map] at z
    have el : (σ.clips.map Prod.snd).take σ.clips.length = σ.clips.map Prod.snd := List.take_of_length_le (by rw [List.length_map]; exact Nat.le_refl _)
    rw [el] at z
    refine wp_load (ld_of z.cell rfl) ?_
    refine wp_done (finM_mark h3.size rfl hdf fun h5 hU5 => ?_)
    have z5 := z.upd hb3lt (.inl rfl) hU5
    refine ⟨[.slice a3 (σ.clips.map Prod.snd).length cap3], ⟨rfl, trivial⟩, ?_, a3, cap3, blk3, by rw [List.length_map]; rfl, z5.own, fun g hg => ?_⟩
    · exact hc03.fresh z5.chg (fun k hk => .inr (by rw [List.mem_singleton] at hk; rw [hk]; exact hN.le))
    · have := z5.new g hg
      have := hc03.size
      omega
theorem bales_c (M : List Nat) (h : Hp) (a : Option Addr) (p : StP) (ok : Bool) (σ : StateR) (hM : Bd M h) (y : VwIs h a p ok) (hσ : StOk M h p σ) (hz : σ.bales.length < 800000) (hb : ∀ x, x ∈ σ.bales → x.2.parts.length < 900000 ∧ x.2.from_.length < 900000) :
    Call c Tryz.prog 19 #[.pointer a] h fun v h' => Chg [] h h' ∧ ∃ a' cap' blk' L, v = .slice a' L.length cap' ∧ L.map Prod.fst = σ.bales.map Prod.snd ∧ BalesOwn h' a' cap' L blk' ∧ Fresh h blk' ∧ OwnAll h.size h' L := by
  obtain ⟨ys, hm, ha⟩ := (hσ : StOk M h p σ).bales
  have hyl := ha.len
  refine call_ofM layOk 18 Tryz.func19 Tryz.ntmps19 rfl rfl rfl ?_
  refine wp_new ?_
  intro b3 h1 hN
  have hc1 := hN.chg []
  refine wp_call (state_c h1 a p ok (y.ext hc1)) ?_
  rintro _ h2 ⟨rfl, hc2⟩
  refine wp_call (BI.all_c p.b h2) ?_
  rintro _ h3 ⟨bA, rfl, hN3⟩
  have hc13 := hc2.trans (hN3.chg [])
  have hc03 := hc1.trans hc13
  have hb3 := hc13.of hN.here (by simp)
  have hb3lt := (Array.getElem?_eq_some_iff.1 hb3).1
  have hm3 : BI.Mp (b3 :: M) h3 p.b ys := (hm.push hN.le).ext hc03
  have ha3 : all2 (BaleAt (b3 :: M) h3) ys σ.bales := (ha.mono fun _ _ z => z.push hN.le).mono fun _ _ z => z.chg hc03 (by simp)
  have hA : bA ∉ b3 :: M := fun hm => by
    have h9 := hN3.le
    rcases List.mem_cons.1 hm with hm | hm
    · have := (Array.getElem?_eq_some_iff.1 (hc2.of hN.here (by simp))).1
      omega
    · have := hM bA hm
      have := hc1.size
      have := hc2.size
      omega
  refine wp_rangeF (gf := 102) (cap := #[.pointer (some ⟨bA, 0, none⟩)]) layOk rfl rfl (ys.map BI.pr) (fun x hx => by
      obtain ⟨v, _, rfl⟩ := List.mem_map.1 hx
      rfl)
    (fun i h' => ∃ L : List (BaleR × BalP), L.map Prod.fst = (σ.bales.map Prod.snd).take i ∧ Coll 42 10 encBale 29 h3 b3 L h' ∧ OwnAll (h3.size + 2) h' L)
    (fun i ha hb o ⟨L, x1, x, x3⟩ hU => ⟨L, x1, x.upd hb3lt (.inr rfl) hU, fun z hz => by
      obtain ⟨bp, bf, g1, g2, g3, g4⟩ := x3 z hz
      exact ⟨bp, bf, g1.wr hU (fun g hg => by have := g3 g hg; omega), g2.wr hU (fun g hg => by have := g4 g hg; omega), g3, g4⟩⟩) (fun h4 hc4 hs4 => ⟨[], rfl, Coll.start hb3 hc4 hs4, fun _ h => by cases h⟩) ?_ ?_ ?_
  · intro J h4 hc4 hJI hyl hJ0
    refine BI.it_c (b3 :: M) h3 ys p.b bA hm3 hN3.here hA (h4.size - 1) J (fun i h' hj => ?_) h4 hJ0 hyl
    obtain ⟨_, _, ⟨_, _, _, z⟩, _⟩ := hJI i h' hj
    exact z.chg.mono (fun k hk => by rw [List.mem_singleton] at hk; simp [hk])
  · rintro i x h4 d hx ⟨L, hLm, ⟨a3, cap3, blk3, z⟩, hLo⟩ hld hdf
    rw [List.getElem?_map] at hx
    obtain ⟨e, he, rfl⟩ := Option.map_eq_some_iff.1 hx
    obtain ⟨w, hwe, hwk, hwb⟩ := ha3.at i e he
    have hwz := hb w (List.mem_of_getElem? hwe)
    have hce : (σ.bales.map Prod.snd)[i]? = some w.2 := by rw [List.getElem?_map, hwe]; rfl
    have hi := (List.getElem?_eq_some_iff.1 hwe).1
    have htk : (σ.bales.map Prod.snd).take (i + 1) = (σ.bales.map Prod.snd).take i ++ [w.2] := by rw [List.take_add_one, hce]; rfl
    have hLl : L.length ≤ i := by
      have := congrArg List.length hLm
      rw [List.length_map, List.length_take] at this
      omega
    refine wp_done ⟨rfl, rfl, rfl, fun h7 d' hU7 => ?_⟩
    have hs4 := z.size
    have z7 := z.upd hb3lt (.inr rfl) hU7
    have hLo7 : OwnAll (h3.size + 2) h7 L := fun v hv => by
      obtain ⟨bp, bf, g1, g2, g3, g4⟩ := hLo v hv
      exact ⟨bp, bf, g1.wr hU7 (fun g hg => by have := g3 g hg; omega), g2.wr hU7 (fun g hg => by have := g4 g hg; omega), g3, g4⟩
    have hwb7 : BaleAt (b3 :: M) h7 e.2 w.2 := hwb.chg z7.chg (fun k hk => by rw [List.mem_singleton] at hk; simp [hk])
    have hdf7 : h7[h3.size]? = some (.deferred (some [])) := hU7.of hdf (by omega)
    have h77 : h7[h3.size + 1]? = some (.loop d') := hU7.here
    refine wp_ord layOk mixed [(0, 5)] [2, 3] (by kernel_rfl) ?_
    refine wp_load (ld_of z7.cell rfl) ?_
    refine wp_callE (own_c (b3 :: M) h7 e.2 w.2 hwb7 hwz.1 hwz.2) ?_
    rintro _ h8 ⟨⟨q, bp, bf, rfl, go1, go2, go3, go4⟩, hc8⟩
    refine ⟨hc8, ?_⟩
    refine wp_new ?_
    intro b8 h9 hN9
    have hc79 := hc8.trans (hN9.chg [])
    have z9 := z7.ext hc79
    refine wp_append layOk (t := 29) rfl rfl rfl (i := ti42) enBale rfl rfl rfl z9.own (M := []) (l' := [(w.2, q)]) (.inr ⟨b8, 0, _, rfl, by simp, hN9.here, Nat.le_refl _, Nat.le_refl _, rfl⟩) (by rw [List.length_singleton]; omega) (fun e => by cases e) ?_
    intro h10 a10 cap10 blk10 ho10 hc10 hb10
    refine wp_store (z9.cell' hc10 (by decide)) (by rfl) ?_
    intro h11 hU11
    obtain ⟨zf, keep⟩ := z9.step hb3lt ho10 hc10 hb10 hU11
    have hs7 := z7.size
    refine wp_done ⟨rfl, ⟨L ++ [(w.2, q)], by rw [List.map_append, hLm, htk]; rfl, ⟨a10, cap10, blk10, zf⟩, fun v hv => ?_⟩, ?_, keep _ _ (.inl rfl) (hc79.of hdf7 (by simp))⟩
    · have hv9 : ∃ bp bf, PartsOwn h9 v.2.pa v.2.pc v.1.parts bp ∧ IntsOwn h9 v.2.fa v.2.fc v.1.from_ bf ∧ (∀ g, bp = some g → h3.size + 2 ≤ g) ∧ ∀ g, bf = some g → h3.size + 2 ≤ g := by
        rcases List.mem_append.1 hv with hv | hv
        · obtain ⟨bp, bf, g1, g2, g3, g4⟩ := hLo7 v hv
          exact ⟨bp, bf, g1.ext hc79, g2.ext hc79, g3, g4⟩
        · rw [List.mem_singleton] at hv
          subst hv
          exact ⟨bp, bf, go1.ext (hN9.chg []), go2.ext (hN9.chg []), fun g hg => Nat.le_trans hs7 (go3 g hg), fun g hg => Nat.le_trans hs7 (go4 g hg)⟩
      obtain ⟨bp, bf, g1, g2, g3, g4⟩ := hv9
      exact ⟨bp, bf, (OwnAt.apart hc10 z9.own (by decide) g1).wr hU11 (fun g hg => by have := g3 g hg; omega), (OwnAt.apart hc10 z9.own (by decide) g2).wr hU11 (fun g hg => by have := g4 g hg; omega), g3, g4⟩
    · rw [h77]
      exact keep _ _ (.inr rfl) (hc79.of h77 (by simp))
  · rintro h4 ⟨L, hLm, ⟨a3, cap3, blk3, z⟩, hLo⟩ hdf
    have hLm' : L.map Prod.fst = σ.bales.map Prod.snd := by
      rw [hLm, List.length_map, hyl]
      exact List.take_of_length_le (by rw [List.length_map]; exact Nat.le_refl _)
    refine wp_load (ld_of z.cell rfl) ?_
    refine wp_done (finM_mark h3.size rfl hdf fun h5 hU5 => ?_)
    have z5 := z.upd hb3lt (.inl rfl) hU5
    have hle : h.size ≤ h3.size + 2 := Nat.le_trans hc03.size (Nat.le_add_right _ _)
    refine ⟨[.slice a3 L.length cap3], ⟨rfl, trivial⟩, ?_, a3, cap3, blk3, L, rfl, hLm', z5.own, fun g hg => Nat.le_trans hle (z5.new g hg), fun v hv => ?_⟩
    · exact hc03.fresh z5.chg (fun k hk => .inr (by rw [List.mem_singleton] at hk; rw [hk]; exact hN.le))
    · obtain ⟨bp, bf, g1, g2, g3, g4⟩ := hLo v hv
      exact ⟨bp, bf, g1.wr hU5 (fun g hg => by have := g3 g hg; omega), g2.wr hU5 (fun g hg => by have := g4 g hg; omega), fun g hg => Nat.le_trans hle (g3 g hg), fun g hg => Nat.le_trans hle (g4 g hg)⟩
theorem lots_c (M : List Nat) (h : Hp) (a : Option Addr) (p : StP) (ok : Bool) (σ : StateR) (hM : Bd M h) (y : VwIs h a p ok) (hσ : StOk M h p σ) (hz : σ.lots.length < 800000) (hb : ∀ x, x ∈ σ.lots → x.2.bales.length < 900000) :
    Call c Tryz.prog 20 #[.pointer a] h fun v h' => Chg [] h h' ∧ ∃ a' cap' blk' L, v = .slice a' L.length cap' ∧ L.map Prod.fst = σ.lots.map Prod.snd ∧ LotsOwn h' a' cap' L blk' ∧ Fresh h blk' ∧ OwnLots h.size h' L := by
  obtain ⟨ys, hm, ha⟩ := (hσ : StOk M h p σ).lots
  have hyl := ha.len
  refine call_ofM layOk 30 Tryz.func20 Tryz.ntmps20 rfl rfl rfl ?_
  refine wp_new ?_
  intro b3 h1 hN
  have hc1 := hN.chg []
  refine wp_call (state_c h1 a p ok (y.ext hc1)) ?_
  rintro _ h2 ⟨rfl, hc2⟩
  refine wp_call (SL.all_c p.l h2) ?_
  rintro _ h3 ⟨bA, rfl, hN3⟩
  have hc13 := hc2.trans (hN3.chg [])
  have hc03 := hc1.trans hc13
  have hb3 := hc13.of hN.here (by simp)
  have hb3lt := (Array.getElem?_eq_some_iff.1 hb3).1
  have hm3 : SL.Mp (b3 :: M) h3 p.l ys := (hm.push hN.le).ext hc03
  have ha3 : all2 (LotAt (b3 :: M) h3) ys σ.lots := (ha.mono fun _ _ z => z.push hN.le).mono fun _ _ z => z.chg hc03 (by simp)
  have hA : bA ∉ b3 :: M := fun hm => by
    have h9 := hN3.le
    rcases List.mem_cons.1 hm with hm | hm
    · have := (Array.getElem?_eq_some_iff.1 (hc2.of hN.here (by simp))).1
      omega
    · have := hM bA hm
      have := hc1.size
      have := hc2.size
      omega
  refine wp_rangeF (gf := 105) (cap := #[.pointer (some ⟨bA, 0, none⟩)]) layOk rfl rfl (ys.map SL.pr) (fun x hx => by
      obtain ⟨v, _, rfl⟩ := List.mem_map.1 hx
      rfl)
    (fun i h' => ∃ L : List LotP, L.map Prod.fst = (σ.lots.map Prod.snd).take i ∧ Coll 36 3 encLot 32 h3 b3 L h' ∧ OwnLots (h3.size + 2) h' L)
    (fun i ha hb o ⟨L, x1, x, x3⟩ hU => ⟨L, x1, x.upd hb3lt (.inr rfl) hU, fun z hz => by
      obtain ⟨bp, g1, g3⟩ := x3 z hz
      exact ⟨bp, g1.wr hU (fun g hg => by have := g3 g hg; omega), g3⟩⟩) (fun h4 hc4 hs4 => ⟨[], rfl, Coll.start hb3 hc4 hs4, fun _ h => by cases h⟩) ?_ ?_ ?_
  · intro J h4 hc4 hJI hyl hJ0
    refine SL.it_c (b3 :: M) h3 ys p.l bA hm3 hN3.here hA (h4.size - 1) J (fun i h' hj => ?_) h4 hJ0 hyl
    obtain ⟨_, _, ⟨_, _, _, z⟩, _⟩ := hJI i h' hj
    exact z.chg.mono (fun k hk => by rw [List.mem_singleton] at hk; simp [hk])
  · rintro i x h4 d hx ⟨L, hLm, ⟨a3, cap3, blk3, z⟩, hLo⟩ hld hdf
    rw [List.getElem?_map] at hx
    obtain ⟨e, he, rfl⟩ := Option.map_eq_some_iff.1 hx
    obtain ⟨w, hwe, hwk, hwb⟩ := ha3.at i e he
    have hwz := hb w (List.mem_of_getElem? hwe)
    have hce : (σ.lots.map Prod.snd)[i]? = some w.2 := by rw [List.getElem?_map, hwe]; rfl
    have hi := (List.getElem?_eq_some_iff.1 hwe).1
    have htk : (σ.lots.map Prod.snd).take (i + 1) = (σ.lots.map Prod.snd).take i ++ [w.2] := by rw [List.take_add_one, hce]; rfl
    have hLl : L.length ≤ i := by
      have := congrArg List.length hLm
      rw [List.length_map, List.length_take] at this
      omega
    refine wp_done ⟨rfl, rfl, rfl, fun h7 d' hU7 => ?_⟩
    have hs4 := z.size
    have z7 := z.upd hb3lt (.inr rfl) hU7
    have hLo7 : OwnLots (h3.size + 2) h7 L := fun v hv => by
      obtain ⟨bp, g1, g3⟩ := hLo v hv
      exact ⟨bp, g1.wr hU7 (fun g hg => by have := g3 g hg; omega), g3⟩
    have hwb7 : LotAt (b3 :: M) h7 e.2 w.2 := hwb.chg z7.chg (fun k hk => by rw [List.mem_singleton] at hk; simp [hk])
    have hdf7 : h7[h3.size]? = some (.deferred (some [])) := hU7.of hdf (by omega)
    have h77 : h7[h3.size + 1]? = some (.loop d') := hU7.here
    obtain ⟨al, capl, hbM, hbb, hl⟩ := hwb7
    refine wp_ord layOk mixed [(0, 8), (10, 13), (9, 9), (14, 17)] [9, 15] (by kernel_rfl) ?_
    refine wp_load (ld_of z7.cell rfl) ?_
    refine wp_load (v := .string w.2.name) (ld_of hbb rfl) ?_
    refine wp_load (v := .slice al w.2.bales.length capl) (ld_of hbb rfl) ?_
    refine wp_load (v := .bool w.2.sent) (ld_of hbb rfl) ?_
    refine wp_callE (clone66_c (b3 :: M) w.2.bales al capl h7 hl hwz) ?_
    rintro _ h8 ⟨a8, cap8, bp, rfl, go1, hc8, go3⟩
    refine ⟨hc8, ?_⟩
    refine wp_new ?_
    intro b8 h9 hN9
    have hc79 := hc8.trans (hN9.chg [])
    have z9 := z7.ext hc79
    refine wp_append layOk (t := 32) rfl rfl rfl (i := ti36) enLot rfl rfl rfl z9.own (M := []) (l' := [(w.2, a8, cap8)]) (.inr ⟨b8, 0, _, rfl, by simp, hN9.here, Nat.le_refl _, Nat.le_refl _, rfl⟩) (by rw [List.length_singleton]; omega) (fun e => by cases e) ?_
    intro h10 a10 cap10 blk10 ho10 hc10 hb10
    refine wp_store (z9.cell' hc10 (by decide)) (by rfl) ?_
    intro h11 hU11
    obtain ⟨zf, keep⟩ := z9.step hb3lt ho10 hc10 hb10 hU11
    have hs7 := z7.size
    refine wp_done ⟨rfl, ⟨L ++ [(w.2, a8, cap8)], by rw [List.map_append, hLm, htk]; rfl, ⟨a10, cap10, blk10, zf⟩, fun v hv => ?_⟩, ?_, keep _ _ (.inl rfl) (hc79.of hdf7 (by simp))⟩
    · have hv9 : ∃ bp, IntsOwn h9 v.2.1 v.2.2 v.1.bales bp ∧ ∀ g, bp = some g → h3.size + 2 ≤ g := by
        rcases List.mem_append.1 hv with hv | hv
        · obtain ⟨bp, g1, g3⟩ := hLo7 v hv
          exact ⟨bp, g1.ext hc79, g3⟩
        · rw [List.mem_singleton] at hv
          subst hv
          exact ⟨bp, go1.ext (hN9.chg []), fun g hg => Nat.le_trans hs7 (go3 g hg)⟩
      obtain ⟨bp, g1, g3⟩ := hv9
      exact ⟨bp, (OwnAt.apart hc10 z9.own (by decide) g1).wr hU11 (fun g hg => by have := g3 g hg; omega), g3⟩
    · rw [h77]
      exact keep _ _ (.inr rfl) (hc79.of h77 (by simp))
  · rintro h4 ⟨L, hLm, ⟨a3, cap3, blk3, z⟩, hLo⟩ hdf
    have hLm' : L.map Prod.fst = σ.lots.map Prod.snd := by
      rw [hLm, List.length_map, hyl]
      exact List.take_of_length_le (by rw [List.length_map]; exact Nat.le_refl _)
    refine wp_load (ld_of z.cell rfl) ?_
    refine wp_done (finM_mark h3.size rfl hdf fun h5 hU5 => ?_)
    have z5 := z.upd hb3lt (.inl rfl) hU5
    have hle : h.size ≤ h3.size + 2 := Nat.le_trans hc03.size (Nat.le_add_right _ _)
    refine ⟨[.slice a3 L.length cap3], ⟨rfl, trivial⟩, ?_, a3, cap3, blk3, L, rfl, hLm', z5.own, fun g hg => Nat.le_trans hle (z5.new g hg), fun v hv => ?_⟩
    · exact hc03.fresh z5.chg (fun k hk => .inr (by rw [List.mem_singleton] at hk; rw [hk]; exact hN.le))
    · obtain ⟨bp, g1, g3⟩ := hLo v hv
      exact ⟨bp, g1.wr hU5 (fun g hg => by have := g3 g hg; omega), fun g hg => Nat.le_trans hle (g3 g hg)⟩
end Go.Xe
