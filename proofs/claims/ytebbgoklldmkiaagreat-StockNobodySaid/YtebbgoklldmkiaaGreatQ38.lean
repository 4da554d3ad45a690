/- Go's own maps, keyed by whole numbers. -/
import Derived.MapKept
import Derived.Test.YtebbgoklldmkiaaGreatQ26
namespace Go.Xe
open Go
/-- a map's entries, the first one born at i -/
def entsF : Nat → List (Int × Value) → List MapEntry
  | _, [] => []
  | i, (k, v) :: l => { key := .int .i64 k, val := v, born := i } :: entsF (i + 1) l
def ents (l : List (Int × Value)) : Array MapEntry := (entsF 0 l).toArray
def getA (k : Int) : List (Int × Value) → Option Value
  | [] => none
  | (a, v) :: l => if k = a then some v else getA k l
def idxA (k : Int) : List (Int × Value) → Nat
  | [] => 0
  | (a, _) :: l => if k = a then 0 else idxA k l + 1
def setA (k : Int) (v : Value) : List (Int × Value) → List (Int × Value)
  | [] => [(k, v)]
  | (a, u) :: l => if k = a then (k, v) :: l else (a, u) :: setA k v l
theorem getA_set (k : Int) (v : Value) (k' : Int) : ∀ l, getA k' (setA k v l) = if k' = k then some v else getA k' l
  | [] => by simp [setA, getA]
  | (a, u) :: l => by
    simp only [setA]
    by_cases h : k = a
    · subst h
      simp only [if_true, getA]
      split <;> rfl
    · simp only [if_neg h, getA, getA_set k v k' l]
      by_cases h' : k' = a
      · subst h'
        simp [Ne.symm h]
      · simp [h']
theorem entsF_len : ∀ (l : List (Int × Value)) (i : Nat), (entsF i l).length = l.length
  | [], _ => rfl
  | (_, _) :: l, i => by simp [entsF, entsF_len l]
theorem findNow_ents (k : Int) : ∀ (l : List (Int × Value)) (i j : Nat), Instr.findNow (.int .i64) (.int .i64 k) (entsF i l) j = some ((getA k l).map fun v => (j + idxA k l, v))
  | [], _, _ => rfl
  | (a, v) :: l, i, j => by
    simp only [entsF, Instr.findNow, Instr.sameNow, if_true, getA, idxA]
    by_cases h : k = a
    · subst h; simp
    · have : (k == a) = false := by simpa using h
      rw [this]
      simp only [if_neg h]
      rw [findNow_ents k l (i + 1) (j + 1)]
      cases getA k l with
      | none => rfl
      | some v => simp; omega
theorem ents_push (k : Int) (v : Value) : ∀ (l : List (Int × Value)) (i : Nat), getA k l = none → entsF i (setA k v l) = entsF i l ++ [{ key := .int .i64 k, val := v, born := i + l.length }]
  | [], _, _ => by simp [setA, entsF]
  | (a, u) :: l, i, h => by
    simp only [getA] at h
    split at h
    · cases h
    · rename_i h1
      simp only [setA, if_neg h1, entsF, ents_push k v l (i + 1) h, List.cons_append, List.length_cons]
      rw [show i + 1 + l.length = i + (l.length + 1) from by omega]
theorem ents_mod (k : Int) (v u : Value) : ∀ (l : List (Int × Value)) (i : Nat), getA k l = some u → entsF i (setA k v l) = (entsF i l).modify (idxA k l) fun e => { e with key := .int .i64 k, val := v }
  | [], _, h => by simp [getA] at h
  | (a, x) :: l, i, h => by
    simp only [getA] at h
    by_cases h1 : k = a
    · subst h1
      simp [setA, entsF, idxA]
    · simp only [if_neg h1] at h
      simp only [setA, if_neg h1, entsF, idxA, ents_mod k v u l (i + 1) h, List.modify_succ_cons]
theorem ents_at (k : Int) (u : Value) : ∀ (l : List (Int × Value)) (i : Nat), getA k l = some u → ∃ e, (entsF i l)[idxA k l]? = some e ∧ e.key = .int .i64 k
  | [], _, h => by simp [getA] at h
  | (a, x) :: l, i, h => by
    simp only [getA] at h
    by_cases h1 : k = a
    · subst h1
      exact ⟨{ key := .int .i64 k, val := x, born := i }, by simp [entsF, idxA], rfl⟩
    · simp only [if_neg h1] at h
      obtain ⟨e, h2, h3⟩ := ents_at k u l (i + 1) h
      exact ⟨e, by simpa [entsF, idxA, if_neg h1] using h2, h3⟩
theorem setA_len (k : Int) (v : Value) : ∀ l : List (Int × Value), (setA k v l).length = if (getA k l).isSome then l.length else l.length + 1
  | [] => rfl
  | (a, u) :: l => by
    simp only [setA, getA]
    by_cases h : k = a
    · simp [h]
    · simp only [if_neg h, List.length_cons, setA_len k v l]
      split <;> rfl
/-- a map lies at b -/
def MapIs (h : Hp) (b : Nat) (l : List (Int × Value)) : Prop := h[b]? = some (.map (ents l) l.length)
section
variable {P : Program} {c : World} {ro : Option Nat} {n : Nat} {h : Hp} {Q : Exit → St → Hp → Prop}
theorem wp_makeMap {e : Option (List Nat)} {T : Nat} {k : Value → X} (hk : ∀ b h', New h h' b (.map #[] 0) → (k (.map (some b))).wp c P ro n h' Q) : (X.sem e (Instr.makeMap T none) k).wp c P ro n h Q := by
  intro w hw hc
  subst hw
  refine ⟨.map (some w.heap.size), w.alloc (.map #[] 0), by simp [Instr.makeMap, Result.andThen], ⟨hc.os, hc.tape, hc.output⟩, Kp.of _ (New.chg (o := .map #[] 0) ⟨rfl, rfl⟩ []), hk _ _ ⟨rfl, rfl⟩⟩
theorem wp_lookup {e : Option (List Nat)} {T kt et b : Nat} {k : Value → X} {ok : Bool} {l : List (Int × Value)} {x : Int} {z : Value} (hm : P.underlying T = some (.map kt et)) (hd : P.underlying kt = some (.int .i64)) (hz : ∀ w, (zeroValue et).run P w = .ok z w)
    (hb : MapIs h b l) (hk : (k (if ok then .tuple #[(getA x l).getD z, .bool (getA x l).isSome] else (getA x l).getD z)).wp c P ro n h Q) : (X.sem e (Instr.lookup T (.map (some b)) (.int .i64 x) ok) k).wp c P ro n h Q := by
  intro w hw hc
  subst hw
  refine ⟨_, w, ?_, hc, Kp.refl _ _, hk⟩
  unfold Instr.lookup
  have h1 := findNow_ents x l 0 0
  have hck : ∀ (e : Bool), (Instr.checkKey e 10000 kt (.int .i64 x)).run P w = .ok () w := fun e => MapKept.run_checkKey hd (show MapKept.IsKey (.int .i64) (.int .i64 x) from by simp [MapKept.IsKey]) e 9999
  have hgo := MapKept.run_getObj_map (P := P) hb
  simp only [Sem.run_bind, run_underlying hm, Result.andThen_ok, hgo, Sem.run_pure, hck]
  rw [MapKept.run_findKey hd (show Instr.findNow (.int .i64) (.int .i64 x) (ents l).toList 0 = _ from by unfold ents; simpa using h1)]
  cases hg : getA x l with
  | none => simp [hz]
  | some v => simp
theorem wp_lookupS {e : Option (List Nat)} {T kt et b : Nat} {k : Value → X} {l : List (Int × Value)} {x : Int} {z : Value} (v : Value) (hm : P.underlying T = some (.map kt et)) (hd : P.underlying kt = some (.int .i64)) (hz : ∀ w, (zeroValue et).run P w = .ok z w)
    (hb : MapIs h b l) (hv : getA x l = some v) (hk : (k (.tuple #[v, .bool true])).wp c P ro n h Q) : (X.sem e (Instr.lookup T (.map (some b)) (.int .i64 x) true) k).wp c P ro n h Q :=
  wp_lookup hm hd hz hb (by rw [hv]; exact hk)
theorem wp_lookupN {e : Option (List Nat)} {T kt et b : Nat} {k : Value → X} {l : List (Int × Value)} {x : Int} (z : Value) (hm : P.underlying T = some (.map kt et)) (hd : P.underlying kt = some (.int .i64)) (hz : ∀ w, (zeroValue et).run P w = .ok z w)
    (hb : MapIs h b l) (hv : getA x l = none) (hk : (k (.tuple #[z, .bool false])).wp c P ro n h Q) : (X.sem e (Instr.lookup T (.map (some b)) (.int .i64 x) true) k).wp c P ro n h Q :=
  wp_lookup hm hd hz hb (by rw [hv]; exact hk)
theorem wp_mapSet {T kt et b : Nat} {kx : X} {l : List (Int × Value)} {x : Int} {v : Value} (hm : P.underlying T = some (.map kt et)) (hd : P.underlying kt = some (.int .i64))
    (hb : MapIs h b l) (hk : ∀ h', MapIs h' b (setA x v l) → Upd h h' b (.map (ents (setA x v l)) (setA x v l).length) → kx.wp c P ro n h' Q) : (X.semU none (Instr.mapUpdate T (.map (some b)) (.int .i64 x) v) kx).wp c P ro n h Q := by
  intro w hw hc
  subst hw
  have h1 := findNow_ents x l 0 0
  have hck : (Instr.checkKey false 10000 kt (.int .i64 x)).run P w = .ok () w := MapKept.run_checkKey hd (show MapKept.IsKey (.int .i64) (.int .i64 x) from by simp [MapKept.IsKey]) false 9999
  have hgo := MapKept.run_getObj_map (P := P) hb
  have hfk := MapKept.run_findKey (w := w) hd (show Instr.findNow (.int .i64) (.int .i64 x) (ents l).toList 0 = _ from by unfold ents; simpa using h1)
  have hlen := setA_len x v l
  cases hg : getA x l with
  | none =>
    rw [hg] at hfk hlen
    have hset : Obj.map ((ents l).push { key := .int .i64 x, val := v, born := l.length }) (l.length + 1) = .map (ents (setA x v l)) (setA x v l).length := by
      rw [hlen]
      unfold ents
      rw [ents_push x v l 0 hg]
      simp
    have hhs := MapKept.heap_set (o' := .map (ents (setA x v l)) (setA x v l).length) hb
    refine ⟨(), { w with heap := w.heap.setIfInBounds b (.map (ents (setA x v l)) (setA x v l).length) }, ?_, ⟨hc.os, hc.tape, hc.output⟩, trivial, hk _ hhs.1 ⟨by simp, hhs.1, hhs.2⟩⟩
    unfold Instr.mapUpdate
    simp only [Sem.run_bind, run_underlying hm, Result.andThen_ok, hgo, hck, hfk, Option.map_none]
    rw [MapKept.run_setObj_map _ hb, hset]
  | some u =>
    rw [hg] at hfk hlen
    simp only [Option.map_some, Option.isSome_some, if_true] at hfk hlen
    obtain ⟨e, he, hek⟩ := ents_at x u l 0 hg
    have hset : Obj.map ((ents l).modify (idxA x l) fun e => { e with key := .int .i64 x, val := v }) l.length = .map (ents (setA x v l)) (setA x v l).length := by
      rw [hlen]
      unfold ents
      rw [ents_mod x v u l 0 hg]
      simp
    have hhs := MapKept.heap_set (o' := .map (ents (setA x v l)) (setA x v l).length) hb
    refine ⟨(), { w with heap := w.heap.setIfInBounds b (.map (ents (setA x v l)) (setA x v l).length) }, ?_, ⟨hc.os, hc.tape, hc.output⟩, trivial, hk _ hhs.1 ⟨by simp, hhs.1, hhs.2⟩⟩
    unfold Instr.mapUpdate
    have hkey : (((ents l)[idxA x l]?).map (·.key)).getD (.int .i64 x) = .int .i64 x := by
      have : (ents l)[idxA x l]? = some e := by unfold ents; simpa using he
      rw [this]
      exact hek
    simp only [Sem.run_bind, run_underlying hm, Result.andThen_ok, hgo, hck, hfk, hkey]
    have hst : ∀ w : World, (Instr.keyThatStays (.int .i64 x) (.int .i64 x)).run P w = .ok (.int .i64 x) w := fun w => by
      simp [Instr.keyThatStays, Instr.sameBits]
    simp only [hst, Result.andThen_ok]
    rw [MapKept.run_setObj_map _ hb, hset]
end
end Go.Xe
