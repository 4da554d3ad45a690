/- What holds of the tree of a body holds of the code: the proof. -/
import Derived.Test.YtebbgoklldmkiaaGreatQ1
namespace Go.Xe
open Go

theorem eval_eq {n : Nat} {a : Act} {s : St} (h : Rel n a s) : a.eval = ev s.ρ := by
  funext x
  cases x with
  | tmp t => exact h.2.2 t
  | _ => rfl

theorem Rel.put {n : Nat} {a : Act} {s : St} (h : Rel n a s) (d : Option Nat) (hd : okDst n d = true) (v : Value) : Rel n (a.put d v) (s.put d v) := by
  cases d with
  | none => exact h
  | some d =>
    obtain ⟨h1, h2, h3⟩ := h
    have hd' : d < n := by simpa [okDst, Nat.blt_eq] using hd
    refine ⟨by simp [Act.put, h1], h2, fun t => ?_⟩
    simp only [Act.put, St.put, upd]
    by_cases ht : t = d
    · subst ht; simp [h1, hd']
    · have : Nat.beq t d = false := by cases hx : Nat.beq t d with | false => rfl | true => exact absurd (Nat.eq_of_beq_eq_true hx) ht
      rw [this, cond_false, ← h3 t]
      simp [Array.getElem?_setIfInBounds_ne (Ne.symm ht)]

section
variable {L : Lay} {P : Program}

theorem run_und (hL : LayOk L P) {T : Nat} {i : TI} (h : L T = some i) (w : World) : (underlying T).run P w = .ok i.desc w := run_underlying (hL.und T i h) w
theorem run_size (hL : LayOk L P) {T : Nat} {i : TI} (h : L T = some i) (w : World) : (sizeOf T).run P w = .ok i.size w := by
  obtain ⟨x, h1, h2, h3, h4⟩ := hL.inf T i h
  simp [sizeOf, typeInfo, h1, h3]
theorem run_zero (hL : LayOk L P) {T : Nat} {i : TI} (h : L T = some i) (w : World) : (zeroValue T).run P w = .ok i.zero w := by
  obtain ⟨x, h1, h2, h3, h4⟩ := hL.inf T i h
  simp [zeroValue, typeInfo, h1, h2]
theorem run_info (hL : LayOk L P) {T : Nat} {i : TI} (h : L T = some i) (w : World) : ∃ x, (typeInfo T).run P w = .ok x w ∧ x.zero = some i.zero ∧ x.size = i.size ∧ x.bytes = i.bytes := by
  obtain ⟨x, h1, h2⟩ := hL.inf T i h
  exact ⟨x, by simp [typeInfo, h1], h2⟩

theorem add_at (b o n : Nat) : (⟨b, o, none⟩ : Addr).add n = ⟨b, o + n, none⟩ := by
  unfold Addr.add; split <;> simp_all

theorem rd_cells {cs : List Value} {o : Nat} {i : TI} {v : Value} (h : rd cs o i = some v) :
    ((match i.desc with | .struct _ | .array _ _ => true | _ => false) = true ∧ o + i.size ≤ cs.length ∧ v = .agg ((cs.drop o).take i.size).toArray) ∨
    ((match i.desc with | .struct _ | .array _ _ => true | _ => false) = false ∧ cs[o]? = some v) := by
  unfold rd at h
  split at h <;> rename_i hd <;> first
    | (cases hb : Nat.ble (o + i.size) cs.length with
       | true => exact .inl ⟨by simp [hd], by simpa using hb, by simpa [hb] using h.symm⟩
       | false => simp [hb] at h)
    | (refine .inr ⟨?_, h⟩
       cases hx : i.desc <;> first | rfl | simp_all)

theorem run_loadVar (hL : LayOk L P) {T : Nat} {i : TI} (h : L T = some i) {w : World} {b o : Nat} {v : Value} (hv : Ld w.heap b o i v) :
    (loadVar T ⟨b, o, none⟩).run P w = .ok v w := by
  obtain ⟨cs, E, fz, hb, hr⟩ := hv
  rcases rd_cells hr with ⟨hd, hs, rfl⟩ | ⟨hd, hc⟩
  · have hag : (isAgg T).run P w = .ok true w := by
      simp only [isAgg, Sem.run_bind, run_und hL h, Result.andThen_ok]
      split at hd <;> rename_i hx <;> first | (simp [hx]; done) | cases hd
    simp only [loadVar, Sem.run_bind, hag, Result.andThen_ok, if_true, run_size hL h]
    have hl : ((cs.toList.drop o).take i.size).length = i.size := by simp at hs ⊢; omega
    have := run_loadCells_list (P := P) w ⟨b, o, none⟩ ((cs.toList.drop o).take i.size) (fun j v hj => by
      rw [add_at]
      have hj' : j < i.size := by have := (List.getElem?_eq_some_iff.1 hj).1; omega
      simp only [World.cell?, hb]
      rw [List.getElem?_take, if_pos hj', List.getElem?_drop] at hj
      simpa using hj)
    rw [hl] at this
    rw [this]
    simp
  · have hag : (isAgg T).run P w = .ok false w := by
      simp only [isAgg, Sem.run_bind, run_und hL h, Result.andThen_ok]
      split at hd <;> rename_i hx <;> first | cases hd | skip
      split <;> simp_all
    simp only [loadVar, Sem.run_bind, hag, Result.andThen_ok]
    simp at hc
    simp [World.cell?, hb, hc]

theorem wrAt_eq : ∀ (cs : List Value) (o : Nat) (vs : List Value), o + vs.length ≤ cs.length → wrAt cs o vs = cs.take o ++ vs ++ cs.drop (o + vs.length)
  | cs, o, [], _ => by cases cs <;> simp [wrAt]
  | [], o, v :: vs, h => by simp at h
  | c :: cs, 0, v :: vs, h => by
    have := wrAt_eq cs 0 vs (by simp at h ⊢; omega)
    simp [wrAt, this]
  | c :: cs, o + 1, v :: vs, h => by
    have := wrAt_eq cs o (v :: vs) (by simp at h ⊢; omega)
    rw [show o + 1 + (v :: vs).length = (o + (v :: vs).length) + 1 from by omega]
    simp [wrAt, this]

theorem wrAt_length : ∀ (cs : List Value) (o : Nat) (vs : List Value), (wrAt cs o vs).length = cs.length
  | cs, o, [] => by cases cs <;> simp [wrAt]
  | [], o, v :: vs => by simp [wrAt]
  | c :: cs, 0, v :: vs => by simp [wrAt, wrAt_length cs 0 vs]
  | c :: cs, o + 1, v :: vs => by simp [wrAt, wrAt_length cs o (v :: vs)]

theorem run_storeVar (hL : LayOk L P) {T : Nat} {i : TI} (h : L T = some i) {w : World} {b o : Nat} {v : Value} {cs : Array Value} {E : Nat} (hb : w.heap[b]? = some (.cells cs E (0, 0)))
    (hs : v.cells.size = i.size) (ho : o + i.size ≤ cs.size) (h1 : ∀ u ∈ v.cells.toList, u.oneCell' = true) :
    (storeVar T ⟨b, o, none⟩ v).run P w = .ok () (w.setRow b (wrAt cs.toList o v.cells.toList).toArray) := by
  have := run_storeCells_at P b o E v.cells.toList 0 cs w hb (by simpa [hs] using ho) h1
  simp only [storeVar, Sem.run_bind, run_size hL h, Result.andThen_ok, hs]
  simp only [ne_eq, not_true_eq_false, if_false]
  rw [wrAt_eq _ _ _ (by simpa [hs] using ho)]
  simpa using this

theorem wrAt_nil (cs : List Value) (o : Nat) : wrAt cs o [] = cs := by cases cs <;> rfl

theorem wrAt_cons : ∀ (cs : List Value) (o : Nat) (v : Value) (vs : List Value), o < cs.length → wrAt cs o (v :: vs) = wrAt (cs.set o v) (o + 1) vs
  | [], o, v, vs, h => by simp at h
  | c :: cs, 0, v, vs, h => by cases vs <;> simp [wrAt]
  | c :: cs, o + 1, v, vs, h => by
    have := wrAt_cons cs o v vs (by simpa using h)
    cases vs <;> simp [wrAt, this]

theorem foldl_wr (off : Nat) : ∀ (l : List Value) (k : Nat) (A : Array Value), off + k + l.length ≤ A.size →
    (l.zipIdx k).foldl (fun (cs : Array Value) (x : Value × Nat) => cs.setIfInBounds (off + x.2) x.1) A = (wrAt A.toList (off + k) l).toArray
  | [], k, A, _ => by simp [wrAt_nil]
  | v :: l, k, A, h => by
    have ih := foldl_wr off l (k + 1) (A.setIfInBounds (off + k) v) (by simp at h ⊢; omega)
    simp only [List.zipIdx_cons, List.foldl_cons, ih]
    rw [wrAt_cons _ _ _ _ (by simp at h ⊢; omega)]
    simp [Nat.add_assoc]

theorem fill_step (place : Nat → Option (Nat × Nat)) (cs : List Value) (i off size : Nat) (v : Value) (rest : List (Nat × Value)) (hp : place i = some (off, size)) (hs : v.cells.size = size)
    (hl : off + size ≤ cs.length) : Instr.fill place cs.toArray ((i, v) :: rest) = Instr.fill place (wrAt cs off v.cells.toList).toArray rest := by
  have h1 : ¬ (v.cells.size ≠ size ∨ off + v.cells.size > cs.toArray.size) := by simp [hs]; omega
  have hb : (decide (v.cells.size ≠ size) || decide (off + v.cells.size > cs.toArray.size)) = false := by simpa using h1
  have := foldl_wr off v.cells.toList 0 cs.toArray (by simp [hs]; omega)
  simp only [Instr.fill, hp]
  rw [if_neg (by simpa using h1)]
  congr 1
  rw [← Array.foldl_toList, Array.toList_zipIdx]
  simpa using this

theorem fill_S (hL : LayOk L P) (fs : Array Field) (pl : Array (Nat × Nat)) (hpl : pl = fs.map fun f : Field => (f.offset, ((L f.type).map (·.size)).getD 0)) :
    ∀ (ps : List (Nat × Value)) (cs out : List Value), bldS L fs cs ps = some out → Instr.fill (pl[·]?) cs.toArray ps = some out.toArray
  | [], cs, out, h => by simp [bldS] at h; simp [Instr.fill, h]
  | (i, v) :: rest, cs, out, h => by
    simp only [bldS] at h
    cases hf : fs[i]? with
    | none => simp [hf] at h
    | some fd =>
      simp only [hf] at h
      cases ht : L fd.type with
      | none => simp [ht] at h
      | some ft =>
        simp only [ht] at h
        cases hc : (Nat.beq v.cells.size ft.size && Nat.ble (fd.offset + ft.size) cs.length) with
        | false => simp [hc] at h
        | true =>
          simp only [hc, cond_true] at h
          simp only [Bool.and_eq_true] at hc
          rw [fill_step (fun i => pl[i]?) cs i fd.offset ft.size v rest (by subst hpl; simp [hf, ht]) (Nat.eq_of_beq_eq_true hc.1) (Nat.le_of_ble_eq_true hc.2)]
          exact fill_S hL fs pl hpl rest _ out h

theorem fill_A (size : Nat) : ∀ (ps : List (Nat × Value)) (cs out : List Value), bldA size cs ps = some out → Instr.fill (fun i => some (i * size, size)) cs.toArray ps = some out.toArray
  | [], cs, out, h => by simp [bldA] at h; simp [Instr.fill, h]
  | (i, v) :: rest, cs, out, h => by
    simp only [bldA] at h
    cases hc : (Nat.beq v.cells.size size && Nat.ble (i * size + size) cs.length) with
    | false => simp [hc] at h
    | true =>
      simp only [hc, cond_true] at h
      simp only [Bool.and_eq_true] at hc
      rw [fill_step (fun i => some (i * size, size)) cs i (i * size) size v rest rfl (Nat.eq_of_beq_eq_true hc.1) (Nat.le_of_ble_eq_true hc.2)]
      exact fill_A size rest _ out h

theorem run_mapM (P : Program) {α β : Type} (f : α → Sem β) (g : α → β) (w : World) : ∀ l : List α, (∀ x, x ∈ l → (f x).run P w = .ok (g x) w) → (l.mapM f).run P w = .ok (l.map g) w
  | [], _ => by simp
  | x :: l, h => by
    have ih := run_mapM P f g w l (fun y hy => h y (List.mem_cons_of_mem _ hy))
    simp [List.mapM_cons, h x (List.mem_cons_self ..), ih]

theorem run_places (hL : LayOk L P) {T : Nat} {i : TI} {fs : Array Field} (h : L T = some i) (hd : i.desc = .struct fs) (w : World) :
    (fs.mapM fun f => do pure (f.offset, ← sizeOf f.type) : Sem (Array (Nat × Nat))).run P w = .ok (fs.map fun f : Field => (f.offset, ((L f.type).map (·.size)).getD 0)) w := by
  rw [Array.mapM_eq_mapM_toList]
  have := run_mapM P (fun f : Field => (do pure (f.offset, ← sizeOf f.type) : Sem (Nat × Nat))) (fun f : Field => (f.offset, ((L f.type).map (·.size)).getD 0)) w fs.toList (fun f hf => by
    obtain ⟨j, hj⟩ := hL.fld T i fs h hd f hf
    simp [run_size hL hj, hj])
  simp only [Sem.run_map, this, Result.andThen_ok, ← Array.toList_map, Array.toArray_toList]


/-- what is said of an operation, by its kind -/
def Cl.Says (P : Program) (s : Sem Next) : Cl → Prop
  | .bad => True
  | .pure v => ∀ w, s.run P w = .ok (.value v) w
  | .chk p v => p → ∀ w, s.run P w = .ok (.value v) w
  | .br t x y => ∀ w, s.run P w = .ok (.value (if t then x else y)) w
  | .load b o i => ∀ w v, Ld w.heap b o i v → s.run P w = .ok (.value v) w
  | .store b o i v => ∀ w cs E, w.heap[b]? = some (.cells cs E (0, 0)) → v.cells.size = i.size → o + i.size ≤ cs.size → (∀ u ∈ v.cells.toList, u.oneCell' = true) →
      s.run P w = .ok .skip (w.setRow b (wrAt cs.toList o v.cells.toList).toArray)
  | .new T cs out => ∀ w, s.run P w = .ok (.value (out w.heap.size)) (w.alloc (.cells cs T))
  | .call f args => ∀ w, s.run P w = (callFunc f args).run P w
  | .round l args => ∀ w, s.run P w = (Instr.yield l args).run P w
  | .sem x => ∀ w, s.run P w = (x.run P w).andThen fun v w' => .ok (.value v) w'
  | .semU x => ∀ w, s.run P w = (x.run P w).andThen fun _ w' => .ok .skip w'

theorem says_ite {s : Sem Next} {b : Bool} {x y : Cl} (hx : b = true → x.Says P s) (hy : b = false → y.Says P s) : (bif b then x else y).Says P s := by
  cases b
  · exact hy rfl
  · exact hx rfl

theorem sameK_eq {k k' : IntKind} (h : sameK k k' = true) : k = k' := by cases k <;> cases k' <;> first | rfl | cases h

section bin
variable (xo yo : Operand) (T : Nat)

/-- the semantics of a binary operation as execOp lays it -/
abbrev semBin (op : BinOp) (x y : Value) : Sem Next := do pure (.value (← (do eqGuard op T xo yo x y; binOp op T x y : Sem Value)))

theorem guard_int (op : BinOp) (k k' : IntKind) (a b : Int) (w : World) : (eqGuard op T xo yo (.int k a) (.int k' b)).run P w = .ok () w := by
  cases op <;> simp [eqGuard]
theorem guard_str (op : BinOp) (a b : ByteArray) (w : World) : (eqGuard op T xo yo (.string a) (.string b)).run P w = .ok () w := by
  cases op <;> simp [eqGuard]
theorem guard_bool (op : BinOp) (a b : Bool) (w : World) : (eqGuard op T xo yo (.bool a) (.bool b)).run P w = .ok () w := by
  cases op <;> simp [eqGuard]
theorem guard_ptr (op : BinOp) (a b : Option Addr) (w : World) : (eqGuard op T xo yo (.pointer a) (.pointer b)).run P w = .ok () w := by
  cases op <;> simp [eqGuard]
theorem guard_sl (op : BinOp) (a b : Option Addr) (n m n' m' : Nat) (w : World) : (eqGuard op T xo yo (.slice a n m) (.slice b n' m')).run P w = .ok () w := by
  cases op <;> simp [eqGuard]

theorem says_int (op : BinOp) (k k' : IntKind) (a b : Int) (hk : isShift op = true ∨ k = k') : (clInt op k a b).Says P (semBin xo yo T op (.int k a) (.int k' b)) := by
  cases op <;> simp only [isShift, Bool.false_eq_true, false_or, true_or] at hk <;> (try subst hk) <;> simp only [clInt, bitsI, Cl.Says] <;>
    first
    | trivial
    | (intro w; simp [semBin, guard_int, binOp, Op.intArith, Op.intDiv, Op.intBits, Op.intCmp, Op.shift]; done)
    | (intro hp w; simp [semBin, guard_int, binOp, Op.intDiv, Op.shift, hp]; done)
    | (intro hp w; have hp' : ¬ b < 0 := by omega
       simp [semBin, guard_int, binOp, Op.shift, hp']; done)

theorem says_str (op : BinOp) (a b : ByteArray) : (clStr op a b).Says P (semBin xo yo T op (.string a) (.string b)) := by
  cases op <;> simp only [clStr, Cl.Says] <;>
    first
    | trivial
    | (intro w; simp [semBin, guard_str, binOp, Op.stringOp]; done)
    | (intro hp w
       have hp' : ¬ ((a.size + b.size : Nat) : Int) > IntKind.i64.max := by omega
       simp only [semBin, Sem.run_bind, guard_str, binOp, Op.stringOp, Result.andThen_ok, if_neg hp', Sem.run_pure]; done)


theorem eqIn_ptr {t : TI} {e : Nat} (hL : LayOk L P) (hT : L T = some t) (ht : t.desc = .pointer e) (a b : Option Addr) (c : Bool) (hab : (a = none ∧ c = b.isNone) ∨ (b = none ∧ c = a.isNone)) (d : Nat) (w : World) :
    (Op.equalIn (d + 1) T (.pointer a) (.pointer b)).run P w = .ok c w := by
  have hu := run_und (P := P) hL hT w
  rw [ht] at hu
  rcases hab with ⟨rfl, rfl⟩ | ⟨rfl, rfl⟩
  · simp [Op.equalIn, hu]
  · cases a <;> simp [Op.equalIn, hu]

theorem eqIn_sl {t : TI} {e : Nat} (hL : LayOk L P) (hT : L T = some t) (ht : t.desc = .slice e) (a b : Option Addr) (n m n' m' : Nat) (c : Bool) (hab : (a = none ∧ c = b.isNone) ∨ (b = none ∧ c = a.isNone)) (d : Nat) (w : World) :
    (Op.equalIn (d + 1) T (.slice a n m) (.slice b n' m')).run P w = .ok c w := by
  have hu := run_und (P := P) hL hT w
  rw [ht] at hu
  rcases hab with ⟨rfl, rfl⟩ | ⟨rfl, rfl⟩
  · simp [Op.equalIn, hu]
  · cases a <;> simp [Op.equalIn, hu]

theorem eqIn_bool {t : TI} (hL : LayOk L P) (hT : L T = some t) (ht : t.desc = .bool) (a b : Bool) (d : Nat) (w : World) :
    (Op.equalIn (d + 1) T (.bool a) (.bool b)).run P w = .ok (a == b) w := by
  have hu := run_und (P := P) hL hT w
  rw [ht] at hu
  simp [Op.equalIn, hu]

theorem says_nil (hL : LayOk L P) (op : BinOp) (a b : Option Addr) (c : Bool) {t : TI} {e : Nat} (hT : L T = some t) (ht : t.desc = .pointer e) (hab : (a = none ∧ c = b.isNone) ∨ (b = none ∧ c = a.isNone)) :
    (clNil op c).Says P (semBin xo yo T op (.pointer a) (.pointer b)) := by
  have he := fun w => eqIn_ptr T hL hT ht a b c hab 9999 w
  cases op <;> simp only [clNil, Cl.Says] <;> intro w <;>
    simp only [semBin, Sem.run_bind, guard_ptr, Result.andThen_ok, binOp, Op.equal, Op.maxDepth]
  · rw [he w]; rfl
  · rw [he w]; rfl

theorem says_nilS (hL : LayOk L P) (op : BinOp) (a b : Option Addr) (n m n' m' : Nat) (c : Bool) {t : TI} {e : Nat} (hT : L T = some t) (ht : t.desc = .slice e) (hab : (a = none ∧ c = b.isNone) ∨ (b = none ∧ c = a.isNone)) :
    (clNil op c).Says P (semBin xo yo T op (.slice a n m) (.slice b n' m')) := by
  have he := fun w => eqIn_sl T hL hT ht a b n m n' m' c hab 9999 w
  cases op <;> simp only [clNil, Cl.Says] <;> intro w <;>
    simp only [semBin, Sem.run_bind, guard_sl, Result.andThen_ok, binOp, Op.equal, Op.maxDepth]
  · rw [he w]; rfl
  · rw [he w]; rfl

theorem says_bool (hL : LayOk L P) (op : BinOp) (a b : Bool) {t : TI} (hT : L T = some t) (ht : t.desc = .bool) :
    (match op with | .eql => Cl.pure (.bool (a == b)) | .neq => .pure (.bool (!(a == b))) | _ => .bad).Says P (semBin xo yo T op (.bool a) (.bool b)) := by
  have he := fun w => eqIn_bool T hL hT ht a b 9999 w
  cases op <;> simp only [Cl.Says] <;> intro w <;>
    simp only [semBin, Sem.run_bind, guard_bool, Result.andThen_ok, binOp, Op.equal, Op.maxDepth]
  · rw [he w]; rfl
  · rw [he w]; rfl

theorem says_bin (hL : LayOk L P) (op : BinOp) (x y : Value) : (clBin L op T xo yo x y).Says P (semBin xo yo T op x y) := by
  unfold clBin
  split
  · rename_i k a k' b
    refine says_ite (fun h => says_int xo yo T op k k' a b (.inl h)) fun _ => says_ite (fun h => says_int xo yo T op k k' a b (.inr (sameK_eq h))) fun _ => trivial
  · exact says_str xo yo T op _ _
  · rename_i a b
    cases hT : L T with
    | none => simp [Cl.Says]
    | some t =>
      obtain ⟨d, z, s, by'⟩ := t
      have := says_bool xo yo T hL op a b (t := ⟨d, z, s, by'⟩) hT
      cases d <;> simp only at this ⊢ <;> first | exact trivial | skip
      have := this trivial
      cases op <;> exact this
  · rename_i p
    cases hT : L T with
    | none => simp [Cl.Says]
    | some t =>
      obtain ⟨d, z, s, by'⟩ := t
      cases d <;> simp only <;> first | exact trivial | exact says_nil xo yo T hL op none p _ hT rfl (.inl ⟨rfl, rfl⟩)
  · rename_i a
    cases hT : L T with
    | none => simp [Cl.Says]
    | some t =>
      obtain ⟨d, z, s, by'⟩ := t
      cases d <;> simp only <;> first | exact trivial | exact says_nil xo yo T hL op (some a) none _ hT rfl (.inr ⟨rfl, rfl⟩)
  · rename_i n m p n' m'
    cases hT : L T with
    | none => simp [Cl.Says]
    | some t =>
      obtain ⟨d, z, s, by'⟩ := t
      cases d <;> simp only <;> first | exact trivial | exact says_nilS xo yo T hL op none p _ _ _ _ _ hT rfl (.inl ⟨rfl, rfl⟩)
  · rename_i a n m n' m'
    cases hT : L T with
    | none => simp [Cl.Says]
    | some t =>
      obtain ⟨d, z, s, by'⟩ := t
      cases d <;> simp only <;> first | exact trivial | exact says_nilS xo yo T hL op (some a) none _ _ _ _ _ hT rfl (.inr ⟨rfl, rfl⟩)
  · intro w
    simp only [semBin, Sem.run_bind, Sem.run_pure]
end bin

/-! the other operations -/
abbrev vS (s : Sem Value) : Sem Next := do pure (.value (← s))

theorem says_len (hL : LayOk L P) (ts : List Nat) (ty : Nat) (x : Value) : (clLen L ts x).Says P (vS (Builtin.len_ ts.toArray ty #[x])) := by
  unfold clLen
  split
  · rename_i T
    cases hT : L T with
    | none => simp [Cl.Says]
    | some t =>
      have hu := fun w => run_und (P := P) hL hT w
      obtain ⟨d, z, s, by'⟩ := t
      cases d <;> (try exact trivial) <;> cases x <;> (try exact trivial) <;> (intro w; simp only at hu; simp [vS, Builtin.len_, hu, goInt])
  · trivial

theorem says_indexAddr (hL : LayOk L P) (T : Nat) (x ix : Value) : (clIndexAddr L T x ix).Says P (vS (Instr.indexAt T x ix)) := by
  unfold clIndexAddr
  split
  · rename_i k i
    split
    · rename_i hT
      have hu := fun w => run_und (P := P) hL hT w
      split
      · rename_i he
        intro hp w
        simp only at hu
        simp [vS, Instr.indexAt, asIntOf, hu, hp.1, hp.2, run_size hL he, add_at]
      · trivial
    · rename_i hT
      have hu := fun w => run_und (P := P) hL hT w
      split
      · rename_i he
        intro hp w
        simp only at hu
        simp [vS, Instr.indexAt, asIntOf, Instr.sureAddr, hu, hp.1, hp.2, run_size hL he, add_at]
      · trivial
    · trivial
  · trivial

theorem says_index (hL : LayOk L P) (T : Nat) (x ix : Value) : (clIndex L T x ix).Says P (vS (Instr.index T x ix)) := by
  unfold clIndex
  split
  · rename_i k i
    split
    · rename_i s hT
      have hu := fun w => run_und (P := P) hL hT w
      intro hp w
      simp only at hu
      have hlt : i.toNat < s.data.size := by have := hp.2; show i.toNat < s.size; omega
      have h1 : s[i.toNat]? = some s.data[i.toNat] := by
        rw [getElem?_pos s i.toNat (by exact hlt)]; rfl
      simp [vS, Instr.index, asIntOf, hu, hp.1, h1, byteAt, Array.getElem?_eq_getElem hlt]
    · trivial
  · trivial

theorem run_part (hL : LayOk L P) {T : Nat} {i : TI} (h : L T = some i) {cs : Array Value} {o : Nat} {v : Value} (hr : rd cs.toList o i = some v) (w : World) : (part T cs o).run P w = .ok v w := by
  rcases rd_cells hr with ⟨hd, hs, rfl⟩ | ⟨hd, hc⟩
  · have hag : (isAgg T).run P w = .ok true w := by
      simp only [isAgg, Sem.run_bind, run_und hL h, Result.andThen_ok]
      split at hd <;> rename_i hx <;> first | (simp [hx]; done) | cases hd
    simp only [part, Sem.run_bind, hag, Result.andThen_ok, if_true, run_size hL h, Sem.run_pure]
    congr 2
    apply Array.ext'
    simp [List.take_drop]
  · have hag : (isAgg T).run P w = .ok false w := by
      simp only [isAgg, Sem.run_bind, run_und hL h, Result.andThen_ok]
      split at hd <;> rename_i hx <;> first | cases hd | skip
      split <;> simp_all
    simp only [part, Sem.run_bind, hag, Result.andThen_ok]
    simp at hc
    simp [hc]

theorem fieldOf_spec {t : TI} {f : Nat} {fd : Field} (h : fieldOf t f = some fd) : ∃ fs, t.desc = .struct fs ∧ fs[f]? = some fd := by
  unfold fieldOf at h
  split at h
  · rename_i fs hd; exact ⟨fs, hd, h⟩
  · cases h

theorem says_field (hL : LayOk L P) (T : Nat) (x : Value) (f : Nat) : (clField L T x f).Says P (vS (Instr.field T x f)) := by
  unfold clField
  split
  · rename_i t cs hT
    split
    · rename_i fd hf
      obtain ⟨fs, hd, hfs⟩ := fieldOf_spec hf
      split
      · rename_i ft hft
        split
        · rename_i v hv
          intro w
          have hu := run_und (P := P) hL hT w
          rw [hd] at hu
          simp only [vS, Instr.field, Sem.run_bind, hu, Result.andThen_ok, hfs, asAgg, Sem.run_pure, run_part hL hft hv]
        · trivial
      · trivial
    · trivial
  · trivial

theorem says_fieldAddr (hL : LayOk L P) (T : Nat) (x : Value) (f : Nat) : (clFieldAddr L T x f).Says P (vS (Instr.fieldAt T x f)) := by
  unfold clFieldAddr
  split
  · rename_i b o t hT
    split
    · rename_i fd hf
      obtain ⟨fs, hd, hfs⟩ := fieldOf_spec hf
      split
      · rename_i ft hft
        refine says_ite (fun _ => trivial) fun hz => ?_
        intro w
        have hz' : ft.size ≠ 0 := fun h => by rw [h] at hz; cases hz
        have hu := run_und (P := P) hL hT w
        rw [hd] at hu
        simp only [vS, Instr.fieldAt, Sem.run_bind, hu, Result.andThen_ok, hfs, Instr.sureAddr, Sem.run_pure, fieldPlace, run_size hL hft, if_neg hz', add_at]
      · trivial
    · trivial
  · trivial

theorem says_build (hL : LayOk L P) (T : Nat) (ps : List (Nat × Value)) : (clBuild L T ps).Says P (vS (Instr.build T ps.toArray)) := by
  unfold clBuild
  split
  · rename_i t hT
    split
    · rename_i fs hd
      split
      · rename_i cs hcs
        intro w
        have hu := run_und (P := P) hL hT w
        rw [hd] at hu
        have hf := fill_S hL fs _ rfl ps t.zero.cells.toList cs hcs
        simp only [vS, Instr.build, Sem.run_bind, run_zero hL hT, hu, Result.andThen_ok, run_places hL hT hd]
        simp only [Array.toArray_toList] at hf
        simp only [hf, Sem.run_pure, Result.andThen_ok]
      · trivial
    · rename_i n e hd
      split
      · rename_i et het
        split
        · rename_i cs hcs
          intro w
          have hu := run_und (P := P) hL hT w
          rw [hd] at hu
          have hf := fill_A et.size ps t.zero.cells.toList cs hcs
          simp only [vS, Instr.build, Sem.run_bind, run_zero hL hT, hu, Result.andThen_ok, run_size hL het]
          simp only [Array.toArray_toList] at hf
          simp only [hf, Sem.run_pure, Result.andThen_ok]
        · trivial
      · trivial
    · trivial
  · trivial

theorem repl_length : ∀ (n : Nat) (l : List Value), (repl n l).length = n * l.length
  | 0, _ => by simp [repl]
  | n + 1, l => by simp [repl, repl_length n l, Nat.add_mul, Nat.add_comm]

theorem repl_get : ∀ (n : Nat) (l : List Value) (i : Nat), i < n * l.length → (repl n l)[i]? = l[i % l.length]?
  | 0, l, i, h => by simp at h
  | n + 1, l, i, h => by
    simp only [repl]
    by_cases hi : i < l.length
    · rw [List.getElem?_append_left hi, Nat.mod_eq_of_lt hi]
    · rw [List.getElem?_append_right (by omega), repl_get n l (i - l.length) (by rw [Nat.add_mul] at h; omega)]
      congr 1
      rw [Nat.mod_eq_sub_mod (a := i) (by omega)]

theorem range_repl (z : Array Value) (n s : Nat) (hs : z.size = s) : ((Array.range (n * s)).map (z[· % z.size]!)) = (repl n z.toList).toArray := by
  apply Array.ext'
  simp only [Array.toList_map, Array.toList_range]
  apply List.ext_getElem?
  intro i
  by_cases hi : i < n * s
  · have hz : 0 < z.size := by rcases Nat.eq_zero_or_pos z.size with h | h <;> first | exact h | (rw [← hs, h] at hi; simp at hi)
    rw [repl_get n z.toList i (by simpa [hs] using hi)]
    have hm : i % z.size < z.size := Nat.mod_lt _ hz
    simp [List.getElem?_range hi, hm]
  · rw [List.getElem?_eq_none (by simpa using hi), List.getElem?_eq_none (by rw [repl_length]; simpa [hs] using hi)]


theorem says_buildSlice (hL : LayOk L P) (T n : Nat) (ps : List (Nat × Value)) : (clBuildSlice L T n ps).Says P (vS (Instr.buildSlice T n ps.toArray)) := by
  unfold clBuildSlice
  split
  · rename_i e z s b hT
    have hu := fun w => run_und (P := P) hL hT w
    simp only at hu
    split
    · rename_i et het
      refine says_ite (fun hb => ?_) fun _ => trivial
      split
      · rename_i cs hcs
        intro w
        have hz := hL.zsz e et het
        have hle : ¬ n * et.size > 2 ^ 24 := by have := Nat.le_of_ble_eq_true hb; omega
        have hf := fill_A et.size ps _ cs hcs
        rw [← range_repl et.zero.cells n et.size hz] at hf
        by_cases h0 : n * et.size = 0
        · simp only [vS, Instr.buildSlice, Sem.run_bind, hu, Result.andThen_ok, run_size hL het, if_neg hle, if_pos h0, Sem.run_pure]
          have e0 : (Array.range (n * et.size)).map (fun x => (#[] : Array Value)[x % (#[] : Array Value).size]!) = (Array.range (n * et.size)).map (et.zero.cells[· % et.zero.cells.size]!) := by simp [h0]
          rw [e0]
          simp [hf, newRow]
        · simp only [vS, Instr.buildSlice, Sem.run_bind, hu, Result.andThen_ok, run_size hL het, if_neg hle, if_neg h0, Sem.run_pure, run_zero hL het]
          simp [hf, newRow]
      · trivial
    · trivial
  · trivial

theorem says_un (op : UnOp) (x : Value) : (clUn op x).Says P (vS (Op.unary op x)) := by
  unfold clUn
  split
  · intro w; simp [vS, Op.unary]
  · intro w; simp [vS, Op.unary, Op.intArith]
  · trivial

theorem says_conv (hL : LayOk L P) (s d : Nat) (x : Value) : (clConv L d s x).Says P (vS (convert s d x)) := by
  unfold clConv
  split
  · rename_i t k z sz by' k' n hs hd
    intro w
    have h1 := run_und (P := P) hL hs w
    have h2 := run_und (P := P) hL hd w
    simp only at h2
    simp [vS, convert, h1, h2, Conv.intToInt]
  · rename_i t z sz by' n hs hd
    intro w
    have h1 := run_und (P := P) hL hs w
    have h2 := run_und (P := P) hL hd w
    simp only at h2
    simp [vS, convert, h1, h2]
  · trivial

theorem run_bound (k : IntKind) (x : Int) (y : Nat) (c : BoundsCode) (h : 0 ≤ x ∧ x ≤ y) (w : World) : (Instr.sliceBound (.int k x) y c).run P w = .ok x.toNat w := by
  simp [Instr.sliceBound, asIntOf, h.1, h.2]

theorem says_slice (hL : LayOk L P) (T : Nat) (x : Value) (lo hi mx : Option Value) : (clSlice L T x lo hi mx).Says P (vS (Instr.sliceAt T x lo hi mx)) := by
  unfold clSlice
  split
  · rename_i e z s b a len cap hT
    have hu := fun w => run_und (P := P) hL hT w
    simp only at hu
    split
    · rename_i t ht
      have hsz := fun w => run_size (P := P) hL ht w
      split
      · rename_i k j
        intro hp w
        simp only [vS, Instr.sliceAt, Instr.slice, Instr.sliceBounds, Sem.run_bind, hu, hsz, Result.andThen_ok, Sem.run_pure, run_bound _ _ _ _ hp, Nat.zero_mul, Nat.sub_zero]
        congr 2
        split
        · rfl
        · cases a <;> simp [Addr.add]
      · rename_i k i
        intro hp w
        simp only [vS, Instr.sliceAt, Instr.slice, Instr.sliceBounds, Sem.run_bind, hu, hsz, Result.andThen_ok, Sem.run_pure, Option.isSome_none, Bool.false_eq_true, if_false, run_bound _ _ _ _ hp]
      · rename_i k i k' j
        intro hp w
        have hp2 : 0 ≤ i ∧ i ≤ (j.toNat : Nat) := by omega
        simp only [vS, Instr.sliceAt, Instr.slice, Instr.sliceBounds, Sem.run_bind, hu, hsz, Result.andThen_ok, Sem.run_pure, Option.isSome_none, Bool.false_eq_true, if_false, run_bound _ _ _ _ hp.1, run_bound _ _ _ _ hp2]
      · intro w
        simp only [vS, Instr.sliceAt, Instr.slice, Instr.sliceBounds, Sem.run_bind, hu, hsz, Result.andThen_ok, Sem.run_pure, Nat.zero_mul, Nat.sub_zero]
        congr 2
        split
        · rfl
        · cases a <;> simp [Addr.add]
      · trivial
    · trivial
  · rename_i z s b str hT
    have hu := fun w => run_und (P := P) hL hT w
    simp only at hu
    split
    · intro hp w
      simp only [vS, Instr.sliceAt, Instr.slice, Instr.sliceBounds, Sem.run_bind, hu, Result.andThen_ok, Sem.run_pure, Option.isSome_none, Bool.false_eq_true, if_false, run_bound _ _ _ _ hp]
    · intro hp w
      simp only [vS, Instr.sliceAt, Instr.slice, Instr.sliceBounds, Sem.run_bind, hu, Result.andThen_ok, Sem.run_pure, Option.isSome_none, Bool.false_eq_true, if_false, run_bound _ _ _ _ hp]
    · rename_i k i k' j
      intro hp w
      have hp2 : 0 ≤ i ∧ i ≤ (j.toNat : Nat) := by omega
      simp only [vS, Instr.sliceAt, Instr.slice, Instr.sliceBounds, Sem.run_bind, hu, Result.andThen_ok, Sem.run_pure, Option.isSome_none, Bool.false_eq_true, if_false, run_bound _ _ _ _ hp.1, run_bound _ _ _ _ hp2]
    · trivial
  · trivial

theorem says_call (hL : LayOk L P) (ρ : Operand → Value) (T : Nat) (k : Go.Call) : (clCall L ρ T k).Says P (do let d ← resolve ρ k T; invoke d.target d.args) := by
  unfold clCall
  split
  · rename_i f hc
    split
    · rename_i g first cap hf
      intro w
      have e : (first.toList ++ k.args.toList.map ρ ++ cap.toList).toArray = first ++ k.args.map ρ ++ cap := by apply Array.ext'; simp
      simp only [e]
      simp [resolve, hc, hf, Deferred.ofValue, invoke]
    · rename_i l first cap hf
      intro w
      have e : (first.toList ++ k.args.toList.map ρ).toArray = first ++ k.args.map ρ := by apply Array.ext'; simp
      simp only [e]
      simp [resolve, hc, hf, Deferred.ofValue, invoke]
    · trivial
  · rename_i hc
    split
    · rename_i x hx
      have hx' : k.args = #[x] := by rw [← Array.toArray_toList (xs := k.args), hx]
      have h1 := says_len hL k.argTypes.toList T (ρ x)
      have h2 : ∀ w, (do let d ← resolve ρ k T; invoke d.target d.args : Sem Next).run P w = (vS (Builtin.len_ k.argTypes.toList.toArray T #[ρ x])).run P w := by
        intro w; simp [resolve, hc, hx', invoke, builtin, vS]
      cases hcl : clLen L k.argTypes.toList (ρ x) <;> rw [hcl] at h1 <;> simp only [Cl.Says] at h1 ⊢ <;> first
        | trivial
        | (intro w; rw [h2 w]; exact h1 w)
        | (intro hp w; rw [h2 w]; exact h1 hp w)
        | (intro w v hv; rw [h2 w]; exact h1 w v hv)
        | (intro w cs E a b c d; rw [h2 w]; exact h1 w cs E a b c d)
    · trivial
  all_goals first
    | trivial
    | (rename_i hc; intro w; simp [resolve, hc, invoke, builtin]; done)

theorem says_load (hL : LayOk L P) (ρ : Operand → Value) (T : Nat) (a : Operand) : (match ρ a, L T with | .pointer (some ⟨b, o, none⟩), some t => Cl.load b o t | _, _ => .bad).Says P (vS (Instr.loadAt T (ρ a))) := by
  split
  · rename_i b o t ha hT
    intro w v hv
    simp only [vS, ha, Instr.loadAt, Instr.sureAddr, Sem.run_bind, Sem.run_pure, Result.andThen_ok, run_loadVar hL hT hv]
  · trivial

theorem says_store (hL : LayOk L P) (ρ : Operand → Value) (T : Nat) (a x : Operand) :
    (match ρ a, L T with | .pointer (some ⟨b, o, none⟩), some t => Cl.store b o t (ρ x) | _, _ => .bad).Says P (do Instr.storeAt T (ρ a) (ρ x); pure Next.skip) := by
  split
  · rename_i b o t ha hT
    intro w cs E hb hs ho h1
    simp only [ha, Instr.storeAt, Instr.sureAddr, Sem.run_bind, Sem.run_pure, Result.andThen_ok, run_storeVar hL hT hb hs ho h1]
  · trivial

theorem says_alloc (hL : LayOk L P) (T : Nat) : (match L T with | some t => Cl.new T t.zero.cells fun b => .pointer (some ⟨b, 0, none⟩) | none => .bad).Says P (vS (Instr.alloc T true (.tuple #[]))) := by
  split
  · rename_i t hT
    intro w
    simp [vS, Instr.alloc, run_zero hL hT, newVar, newRow]
  · trivial

theorem says_box (T : Nat) (v : Value) : (Cl.new T v.cells fun b => .pointer (some ⟨b, 0, none⟩)).Says P (vS (Instr.box T v)) := by
  intro w
  simp [vS, Instr.box, newVar, newRow]

theorem says_pick (c x y : Value) : (match c with | .bool t => Cl.br t x y | _ => .bad).Says P (do pure (.value (if ← asBool c then x else y))) := by
  split
  · intro w; simp [asBool]
  · trivial

theorem nthV_eq : ∀ (l : List Value) (i : Nat), nthV l i = l[i]?
  | [], _ => by simp [nthV]
  | _ :: _, 0 => by simp [nthV]
  | _ :: l, i + 1 => by simp [nthV, nthV_eq l i]
theorem says_extract (x : Value) (i : Nat) : (match x with | .tuple vs => (match nthV vs.toList i with | some v => Cl.pure v | none => .bad) | _ => .bad).Says P (vS (Instr.extract x i)) := by
  split
  · rename_i vs
    split
    · rename_i v hv
      rw [nthV_eq, Array.getElem?_toList] at hv
      intro w; simp [vS, Instr.extract, hv]
    · trivial
  · trivial

theorem cl_says (hL : LayOk L P) (ρ : Operand → Value) (o : Oper) : (cl L ρ o).Says P (execOp ρ o) := by
  unfold cl execOp
  split <;> rename_i hop <;> rw [hop] <;> simp only
  all_goals first
    | (intro w; rfl)
    | trivial
    | exact says_field hL _ _ _
    | exact says_fieldAddr hL _ _ _
    | exact says_indexAddr hL _ _ _
    | exact says_index hL _ _ _
    | exact says_slice hL _ _ _ _ _
    | exact says_un _ _
    | exact says_conv hL _ _ _
    | exact says_call hL _ _ _
    | exact says_bin _ _ _ hL _ _ _
    | exact says_load hL ρ _ _
    | exact says_store hL ρ _ _ _
    | exact says_alloc hL _
    | exact says_box _ _
    | exact says_pick _ _ _
    | exact says_extract _ _
    | (intro w
       have e : ∀ l : Array Operand, (l.toList.map ρ).toArray = l.map ρ := fun l => by apply Array.ext'; simp
       simp only [Instr.makeFunc, e]
       rfl)
    | (intro w; simp only [Sem.run_bind, Sem.run_pure]; done)
    | skip
  · rename_i T ps
    have := says_build hL T (ps.toList.map fun p => (p.1, ρ p.2))
    have e : (ps.toList.map fun p => (p.1, ρ p.2)).toArray = ps.map fun p => (p.1, ρ p.2) := by apply Array.ext'; simp
    rw [e] at this; exact this
  · rename_i T n ps
    have := says_buildSlice hL T n (ps.toList.map fun p => (p.1, ρ p.2))
    have e : (ps.toList.map fun p => (p.1, ρ p.2)).toArray = ps.map fun p => (p.1, ρ p.2) := by apply Array.ext'; simp
    rw [e] at this; exact this
  · rename_i x
    generalize ρ x = v
    cases v with
    | pointer p => cases p with
      | none => trivial
      | some a => intro w; rfl
    | func fn fi ca => cases fn with
      | func g => intro w; rfl
      | yield g => intro w; rfl
      | _ => trivial
    | _ => trivial
end

end Go.Xe
