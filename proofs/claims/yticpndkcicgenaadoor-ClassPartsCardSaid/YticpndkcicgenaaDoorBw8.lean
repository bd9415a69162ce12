/- Abstract walk over contents given by functions, part 8: operations on memory: variables, rows, pointers. -/
import Derived.Test.YticpndkcicgenaaDoorBw7
set_option linter.unusedVariables false
set_option linter.unusedSimpArgs false
namespace Go.Bw
open Go.RowKit

theorem h_alloc_old (w : World) (o : Obj) (k : Nat) (hk : k < w.heap.size) : (w.alloc o).heap[k]? = w.heap[k]? := by
  show (w.heap.push o)[k]? = _
  rw [Array.getElem?_push, if_neg (by omega)]
theorem h_alloc_new (w : World) (o : Obj) : (w.alloc o).heap[w.heap.size]? = some o := by
  show (w.heap.push o)[w.heap.size]? = _
  simp
/-- Something is new. -/
theorem OpS.new {P : Program} {G : List (Addr × Value)} {o : Oper} {ae : Operand → Option AV} {id : Id} {ob : AObj} {v : AV}
    (h : ∀ φ F w (ρ : Operand → Value), SimM G φ F (fun _ => none) w → (∀ x ∈ o.op.operands.toList, ∀ u, ae x = some u → repAV φ F w u (ρ x)) → φ id = none →
      ∃ u b r, (execOp ρ o).run P w = .ok (.value u) (w.alloc b) ∧ r.b = some w.heap.size ∧ (let φ' := fun i => if i = id then some r else φ i; objRep φ' F (w.alloc b) r ob ∧ repAV φ' F (w.alloc b) v u)) : OpS P G o ae [] [] [] [(id, ob)] v := by
  intro φ F w ρ hs hop hn
  have hid : φ id = none := hn id (by simp [keys])
  have hs' : SimM G φ F (fun _ => none) w := hs.sub (by simp)
  obtain ⟨u, b, r, hrun, hb, ho, hv⟩ := h φ F w ρ hs' hop hid
  rw [hrun]
  have hm : ∀ i, ofOut (outs [] [] [(id, ob)]) i = if i = id then some ob else none := by
    intro i
    simp only [ofOut, outs, lift, List.map_cons, List.map_nil, List.append_nil, List.lookup_cons, List.lookup_nil]
    cases hbb : (i == id) with
    | true => have : i = id := by simpa using hbb
              simp [this]
    | false => have : i ≠ id := by simpa using hbb
               simp [this]
  have hold : ∀ k, k < w.heap.size → (w.alloc b).heap[k]? = w.heap[k]? := fun k hk => h_alloc_old w b k hk
  refine ⟨fun i => if i = id then some r else φ i, F, ⟨?_, ?_, ?_, ?_, ?_⟩, hv, ?_, ?_⟩
  · intro i o' hi
    rw [hm] at hi
    split at hi
    · rename_i he; cases hi; exact ⟨r, by simp [he], ho⟩
    · cases hi
  · rintro k ⟨i, o', r', h1, h2, h3⟩
    rw [hm] at h1
    split at h1
    · rename_i he
      simp only [if_pos he] at h2; cases h2
      rw [hb] at h3; cases h3
      exact ⟨fun hF => absurd (hs.frz _ hF) (by omega), by simp⟩
    · cases h1
  · intro i1 i2 o1 o2 r1 r2 k h1 h2
    rw [hm] at h1 h2
    split at h1
    · split at h2
      · rename_i e1 e2; intros; rw [e1, e2]
      · cases h2
    · cases h1
  · intro k hk; have := hs.frz k hk; simp; omega
  · intro p hp
    obtain ⟨h1, h2⟩ := hs.amb p hp
    exact ⟨h1, (World.cell?_of_block (w := w) (hold _ (hs.frz _ h1))).trans h2⟩
  · refine ⟨rfl, rfl, rfl, by simp, fun k hk _ => hold k hk, fun _ h => h, fun _ h => .inl h, ?_, ?_⟩
    · rintro k ⟨i, o', r', h1, h2, h3⟩
      rw [hm] at h1
      split at h1
      · rename_i he
        simp only [if_pos he] at h2; cases h2
        rw [hb] at h3; cases h3
        exact .inl (Nat.le_refl _)
      · cases h1
    · intro i o' hi; simp [ofIn] at hi
  · intro i hi
    have : i ≠ id := fun e => hi (by rw [e]; simp [outs, keys, lift])
    simp [this]

/-- An object is changed in place. -/
theorem OpS.change {P : Program} {G : List (Addr × Value)} {o : Oper} {ae : Operand → Option AV} {id : Id} {ob ob' : AObj} {v : AV}
    (h : ∀ φ F w (ρ : Operand → Value), SimM G φ F (ofIn [(id, ob)]) w → (∀ x ∈ o.op.operands.toList, ∀ u, ae x = some u → repAV φ F w u (ρ x)) →
      ∀ r b, φ id = some r → objRep φ F w r ob → r.b = some b → ∃ u x n w', (execOp ρ o).run P w = .ok n w' ∧ (n = .value u ∨ n = .skip ∧ u = undef) ∧ w'.heap = w.heap.setIfInBounds b x ∧ w'.os = w.os ∧ w'.tape = w.tape ∧ w'.output = w.output ∧
        ((∀ k, F k → w'.heap[k]? = w.heap[k]?) → objRep φ F w' r ob' ∧ repAV φ F w' v u))
    (hb : ∀ φ F w r, objRep φ F w r ob → r.b ≠ none) : OpS P G o ae [] [(id, ob)] [(id, some ob')] [] v := by
  intro φ F w ρ hs hop hn
  have hs' : SimM G φ F (ofIn [(id, ob)]) w := hs
  have hin : ofIn [(id, ob)] id = some ob := by simp [ofIn, List.lookup_cons]
  obtain ⟨r, hr, ho⟩ := hs'.obj id ob hin
  cases hrb : r.b with
  | none => exact absurd hrb (hb φ F w r ho)
  | some b =>
    obtain ⟨u, x, n, w', hrun, hn', hheap, h1, h2, h3, h4⟩ := h φ F w ρ hs' hop r b hr ho hrb
    obtain ⟨hnF, hlt⟩ := hs'.live b ⟨id, ob, r, hin, hr, hrb⟩
    have hoth : ∀ k, k ≠ b → w'.heap[k]? = w.heap[k]? := by
      intro k hk
      rw [hheap, Array.getElem?_setIfInBounds, if_neg (fun e => hk e.symm)]
    obtain ⟨h5, h6⟩ := h4 (fun k hk => hoth k (fun e => hnF (e ▸ hk)))
    have hm : ∀ i, ofOut (outs [] [(id, some ob')] []) i = if i = id then some ob' else none := by
      intro i
      simp only [ofOut, outs, lift, List.map_nil, List.append_nil, List.nil_append, List.lookup_cons, List.lookup_nil]
      cases hbb : (i == id) with
      | true => have : i = id := by simpa using hbb
                simp [this]
      | false => have : i ≠ id := by simpa using hbb
                 simp [this]
    have hmi : ∀ i o', ofIn ([] ++ [(id, ob)]) i = some o' → i = id := by
      intro i o' hi
      simp only [ofIn, List.nil_append, List.lookup_cons, List.lookup_nil] at hi
      cases hbb : (i == id) with
      | true => simpa using hbb
      | false => rw [hbb] at hi; cases hi
    have hgoal : ∃ φ' F', SimM G φ' F' (ofOut (outs [] [(id, some ob')] [])) w' ∧ repAV φ' F' w' v u ∧ Since φ F (ofIn ([] ++ [(id, ob)])) w φ' F' (ofOut (outs [] [(id, some ob')] [])) w' ∧ ∀ i, i ∉ keys (outs [] [(id, some ob')] []) → φ' i = φ i := by
      refine ⟨φ, F, ⟨?_, ?_, ?_, ?_, ?_⟩, h6, ⟨h1, h2, h3, by rw [hheap]; simp, ?_, fun _ h => h, fun _ h => .inl h, ?_, fun _ _ _ => rfl⟩, fun _ _ => rfl⟩
      · intro i o' hi
        rw [hm] at hi
        split at hi
        · rename_i he; cases hi; exact ⟨r, by rw [he]; exact hr, h5⟩
        · cases hi
      · rintro k ⟨i, o', r', k1, k2, k3⟩
        rw [hm] at k1
        split at k1
        · rename_i he
          rw [he, hr] at k2; cases k2
          rw [hrb] at k3; cases k3
          exact ⟨hnF, by rw [hheap]; simpa using hlt⟩
        · cases k1
      · intro i1 i2 o1 o2 r1 r2 k k1 k2
        rw [hm] at k1 k2
        split at k1
        · split at k2
          · rename_i e1 e2; intros; rw [e1, e2]
          · cases k2
        · cases k1
      · intro k hk; rw [hheap]; simpa using hs'.frz k hk
      · intro p hp
        obtain ⟨k1, k2⟩ := hs'.amb p hp
        exact ⟨k1, (World.cell?_of_block (w := w) (hoth _ (fun e => hnF (e ▸ k1)))).trans k2⟩
      · intro k hk hl
        refine hoth k (fun e => hl ?_)
        subst e
        exact ⟨id, ob, r, hin, hr, hrb⟩
      · rintro k ⟨i, o', r', k1, k2, k3⟩
        rw [hm] at k1
        split at k1
        · rename_i he
          right
          exact ⟨id, ob, r', hin, by rw [← he]; exact k2, k3⟩
        · cases k1
    rcases hn' with rfl | ⟨rfl, rfl⟩
    · rw [hrun]; exact hgoal
    · rw [hrun]; exact hgoal

section
variable {P : Program} {G : List (Addr × Value)} {o : Oper} {ae : Operand → Option AV} {x y z : Operand} {v : AV} {T yT : TypeId}

theorem OpS.alloc (id : Id) {X : TI} {z : Nat → Value} (ho : o.op = .alloc T) (hT : TabOk P T X z) : OpS P G o ae [] [] [] [(id, .var X.size (fun j => .d (.raw (z j))))] (.one (.ptr id 0)) :=
  .new fun φ F w ρ hs hop hid => by
    refine ⟨.pointer (some ⟨w.heap.size, 0, none⟩), .cells X.zero.cells T, ⟨some w.heap.size, 0, 0, nofun⟩, ?_, rfl, ?_, ?_⟩
    · unfold execOp
      simp only [ho, Instr.alloc, Sem.run_bind, run_zeroValue hT.ti, Result.andThen_ok, newVar, newRow, newObj, Sem.run, Sem.run_pure]
      rfl
    · refine ⟨w.heap.size, X.zero.cells, T, rfl, h_alloc_new w _, by simpa using hT.zs, fun j v hv => ?_⟩
      have hj : j < X.size := by have := (List.getElem?_eq_some_iff.1 hv).1; have h1 := hT.zs; simp at this; omega
      obtain ⟨h1, h2⟩ := hT.zc j hj
      rw [Array.getElem?_toList, h1] at hv
      cases hv
      simp only [repC, repD]
      exact ⟨trivial, h2⟩
    · simp only [repAV, repC]
      exact ⟨_, _, if_pos trivial, rfl, rfl⟩
theorem OpS.box (id : Id) {u : AV} {k : Nat} {g : Nat → C} (ho : o.op = .box T x) (hx : ae x = some u) (hu : upk u = some (k, g)) : OpS P G o ae [] [] [] [(id, .var k g)] (.one (.ptr id 0)) :=
  .new fun φ F w ρ hs hop hid => by
    have h1 := hop x (by simp [ho, Op.operands]) _ hx
    refine ⟨.pointer (some ⟨w.heap.size, 0, none⟩), .cells (ρ x).cells T, ⟨some w.heap.size, 0, 0, nofun⟩, ?_, rfl, ?_, ?_⟩
    · unfold execOp
      simp only [ho, Instr.box, Sem.run_bind, Result.andThen_ok, newVar, newRow, newObj, Sem.run, Sem.run_pure]
      rfl
    · refine ⟨w.heap.size, (ρ x).cells, T, rfl, h_alloc_new w _, ?_⟩
      have hlat : Later φ F w (fun i => if i = id then some ⟨some w.heap.size, 0, 0, nofun⟩ else φ i) F (w.alloc (.cells (ρ x).cells T)) :=
        ⟨fun _ h => h, fun b hb => h_alloc_old w _ b (hs.frz b hb), fun i r hr => by
          by_cases e : i = id
          · subst e; rw [hid] at hr; cases hr
          · show (if i = id then _ else _) = _; rw [if_neg e]; exact hr⟩
      exact (upk_rep hu h1).later hlat
    · simp only [repAV, repC]
      exact ⟨_, _, if_pos trivial, rfl, rfl⟩

theorem exec_load {ρ : Operand → Value} {ad : Addr} {w : World} {u : Value} (ho : o.op = .load T x) (hu : ρ x = .pointer (some ad)) (hrun : (loadVar T ad).run P w = .ok u w) : (execOp ρ o).run P w = .ok (.value u) w := by
  unfold execOp
  simp only [ho, hu, Instr.loadAt, Instr.sureAddr, Sem.run_bind, Sem.run_pure, Result.andThen_ok, hrun]
/-- A load out of a variable. -/
theorem OpS.load {id : Id} {off k : Nat} {g : Nat → C} {X : TI} (ho : o.op = .load T x) (hx : ae x = some (.one (.ptr id off))) (hT : tiOf P T = some X) (hag : X.k.agg = false → X.size = 1) (hle : off + X.size ≤ k) :
    OpS P G o ae [(id, .var k g)] [] [] [] (pkA X.k.agg X.size off g) :=
  .quiet fun φ F w ρ hs hop => by
    have h1 := hop x (by simp [ho, Op.operands]) _ hx
    simp only [repAV, repC] at h1
    obtain ⟨r, b, hr, hb, hu⟩ := h1
    obtain ⟨r', hr', b', arr, e, h2, h3, h4, h5⟩ := hs.obj id (.var k g) (by simp [ofIn, List.lookup_cons])
    rw [hr] at hr'; cases hr'
    rw [hb] at h2; cases h2
    have hll := cut_length (us := arr.toList) (off := off) (s := X.size) (by omega)
    have hrun := run_loadVar_at hT w b off ((arr.toList.drop off).take X.size) hll (fun h => by rw [hll]; exact hag h) (fun j u hj => by
      rw [cell_of_row w b (off + j) arr e (0, 0) h3]; simpa using (getElem?_cut hj).1)
    exact ⟨_, exec_load ho hu hrun, repAV_pkA hll hag fun j v hv => h5 _ _ (getElem?_cut hv).1⟩
/-- The cells of one element of a block. -/
theorem cells_of {R : C → Value → Prop} {cur : Array Value} {k n i j s : Nat} {g : Nat → Nat → C} (h : cellsAt R cur k n g) (hi : i < n) (hj : j + s ≤ k) : ∃ us : List Value, us.length = s ∧ ∀ q v, us[q]? = some v → cur[i * k + j + q]? = some v ∧ R (g i (j + q)) v := by
  induction s with
  | zero => exact ⟨[], rfl, fun q v hv => by simp at hv⟩
  | succ s ih =>
    obtain ⟨us, h1, h2⟩ := ih (by omega)
    obtain ⟨x, h3, h4⟩ := h i (j + s) hi (by omega)
    refine ⟨us ++ [x], by simp [h1], fun q v hv => ?_⟩
    by_cases hq : q < s
    · rw [List.getElem?_append_left (by omega)] at hv
      exact h2 q v hv
    · rw [List.getElem?_append_right (by omega)] at hv
      have : q = s := by
        have := (List.getElem?_eq_some_iff.1 hv).1
        simp at this; omega
      subst this
      simp [h1] at hv
      subst hv
      exact ⟨by rw [show i * k + j + q = i * k + (j + q) by omega]; exact h3, h4⟩
theorem OpS.loadR {id : Id} {i j e k n : Nat} {g : Nat → Nat → D} {X : TI} (ho : o.op = .load T x) (hx : ae x = some (.one (.ptrR id i j))) (hT : tiOf P T = some X) (hag : X.k.agg = false → X.size = 1) (hi : i < n) (hle : j + X.size ≤ k) :
    OpS P G o ae [(id, .row e k n g)] [] [] [] (pkA X.k.agg X.size j (fun q => .d (g i q))) :=
  .quiet fun φ F w ρ hs hop => by
    have h1 := hop x (by simp [ho, Op.operands]) _ hx
    simp only [repAV, repC] at h1
    obtain ⟨r, b, hr, hb, hu⟩ := h1
    obtain ⟨r', hr', h2, h3, h4, h5⟩ := hs.obj id (.row e k n g) (by simp [ofIn, List.lookup_cons])
    rw [hr] at hr'; cases hr'
    rcases h5 with ⟨h6, _⟩ | ⟨b', cur, h6, h7, h8, h9⟩
    · rw [hb] at h6; cases h6
    rw [hb] at h6; cases h6
    obtain ⟨us, hl, hus⟩ := cells_of h9 hi hle
    have hrun := run_loadVar_at hT w b (i * r.k + j) us hl (fun h => by rw [hl]; exact hag h) (fun q u hq => by
      rw [cell_of_row w b _ cur e (0, 0) h7, h2]; exact (hus q u hq).1)
    exact ⟨_, exec_load ho hu hrun, repAV_pkA hl hag fun q v hv => (hus q v hv).2⟩
theorem OpS.loadRC {id : Id} {i j e k n : Nat} {g : Nat → Nat → C} {X : TI} (ho : o.op = .load T x) (hx : ae x = some (.one (.ptrR id i j))) (hT : tiOf P T = some X) (hag : X.k.agg = false → X.size = 1) (hi : i < n) (hle : j + X.size ≤ k) :
    OpS P G o ae [(id, .rowC e k n g)] [] [] [] (pkA X.k.agg X.size j (g i)) :=
  .quiet fun φ F w ρ hs hop => by
    have h1 := hop x (by simp [ho, Op.operands]) _ hx
    simp only [repAV, repC] at h1
    obtain ⟨r, b, hr, hb, hu⟩ := h1
    obtain ⟨r', hr', h2, h3, h4, h5⟩ := hs.obj id (.rowC e k n g) (by simp [ofIn, List.lookup_cons])
    rw [hr] at hr'; cases hr'
    rcases h5 with ⟨h6, _⟩ | ⟨b', cur, h6, h7, h8, h9⟩
    · rw [hb] at h6; cases h6
    rw [hb] at h6; cases h6
    obtain ⟨us, hl, hus⟩ := cells_of h9 hi hle
    have hrun := run_loadVar_at hT w b (i * r.k + j) us hl (fun h => by rw [hl]; exact hag h) (fun q u hq => by
      rw [cell_of_row w b _ cur e (0, 0) h7, h2]; exact (hus q u hq).1)
    exact ⟨_, exec_load ho hu hrun, repAV_pkA hl hag fun q v hv => (hus q v hv).2⟩
theorem OpS.loadF {k : Nat} {g : Nat → D} {X : TI} (ho : o.op = .load T x) (hx : ae x = some (.one (.d (.fptr k g)))) (hT : tiOf P T = some X) (hag : X.k.agg = false → X.size = 1) (hle : X.size ≤ k) : OpS P G o ae [] [] [] [] (pkA X.k.agg X.size 0 (fun q => .d (g q))) :=
  .quiet fun φ F w ρ hs hop => by
    have h1 := hop x (by simp [ho, Op.operands]) _ hx
    simp only [repAV, repC, repD] at h1
    obtain ⟨b, off, hu, hF, hrow⟩ := h1
    have key : ∀ s, s ≤ k → ∃ us : List Value, us.length = s ∧ ∀ q v, us[q]? = some v → w.cell? ⟨b, off + q, none⟩ = some v ∧ repD F w (g q) v := by
      intro s
      induction s with
      | zero => exact fun _ => ⟨[], rfl, fun q v hv => by simp at hv⟩
      | succ s ih =>
        intro hs
        obtain ⟨us, h1, h2⟩ := ih (by omega)
        obtain ⟨x, h3, h4⟩ := hrow s (by omega)
        refine ⟨us ++ [x], by simp [h1], fun q v hv => ?_⟩
        by_cases hq : q < s
        · rw [List.getElem?_append_left (by omega)] at hv
          exact h2 q v hv
        · rw [List.getElem?_append_right (by omega)] at hv
          have : q = s := by
            have := (List.getElem?_eq_some_iff.1 hv).1
            simp at this; omega
          subst this
          simp [h1] at hv
          subst hv
          exact ⟨h3, h4⟩
    obtain ⟨us, hl, hus⟩ := key X.size hle
    have hrun := run_loadVar_at hT w b off us hl (fun h => by rw [hl]; exact hag h) (fun q u hq => (hus q u hq).1)
    refine ⟨_, exec_load ho hu hrun, repAV_pkA hl hag fun q v hv => ?_⟩
    rw [Nat.zero_add]
    simp only [repC]
    exact (hus q v hv).2
theorem OpS.loadG {ad : Addr} {u : Value} {X : TI} (ho : o.op = .load T x) (hx : ae x = some (RV (.pointer (some ad)))) (hsp : ad.spot = none) (hG : (ad, u) ∈ G) (hT : tiOf P T = some X) (hs : X.size = 1) (hag : X.k.agg = false) (hu : okV u) : OpS P G o ae [] [] [] [] (RV u) :=
  .quiet fun φ F w ρ hs' hop => by
    have e1 := rep_raw (hop x (by simp [ho, Op.operands]) _ hx)
    obtain ⟨b, off, sp⟩ := ad
    cases hsp
    have hc := (hs'.amb _ hG).2
    have hrun := run_loadVar_at hT w b off [u] (by simp [hs]) (fun _ => rfl) (fun j v hv => by
      cases j with
      | zero => simp at hv; subst hv; simpa using hc
      | succ j => simp at hv)
    rw [hag] at hrun
    exact ⟨u, exec_load ho e1 hrun, rep_raw_mk hu⟩

/-! ### stores -/
def upd {α : Type} (off : Nat) : Nat → (Nat → α) → (Nat → α) → Nat → α
  | 1, ns, g => fun j => if j = off then ns 0 else g j
  | s, ns, g => fun j => if off ≤ j ∧ j < off + s then ns (j - off) else g j
theorem upd_eq {α : Type} (off s : Nat) (ns g : Nat → α) (j : Nat) : upd off s ns g j = if off ≤ j ∧ j < off + s then ns (j - off) else g j := by
  unfold upd
  split
  · by_cases h : j = off
    · subst h; simp
    · simp only [if_neg h]; rw [if_neg (by omega)]
  · rfl
/-- What a variable of k cells holds behind a store of s cells. -/
def setV {α : Type} (k off s : Nat) (ns g : Nat → α) : Nat → α := bif Nat.beq s k then ns else upd off s ns g
theorem setV_eq {α : Type} {k off s : Nat} {ns g : Nat → α} (h : off + s ≤ k) (j : Nat) (hj : j < k) : setV k off s ns g j = if off ≤ j ∧ j < off + s then ns (j - off) else g j := by
  unfold setV
  cases hb : Nat.beq s k with
  | true =>
    have : s = k := Nat.eq_of_beq_eq_true hb
    subst this
    have : off = 0 := by omega
    subst this
    simp [hj]
  | false => exact upd_eq _ _ _ _ _

theorem run_storeVar_at {P : Program} {T : TypeId} {X : TI} (hT : tiOf P T = some X) (w : World) (b off : Nat) (cur : Array Value) (e : TypeId) (hg : w.heap[b]? = some (.cells cur e (0, 0))) (u : Value) (hl : u.cells.size = X.size) (hle : off + X.size ≤ cur.size) (h1 : ∀ v ∈ u.cells.toList, v.oneCell' = true) :
    ∃ cur', (storeVar T ⟨b, off, none⟩ u).run P w = .ok () (w.setRow b cur') ∧ cur'.size = cur.size ∧ ∀ i : Nat, cur'[i]? = if off ≤ i ∧ i < off + X.size then u.cells[i - off]? else cur[i]? := by
  have hst := run_storeCells_at P b off e u.cells.toList 0 cur w hg (by simp; omega) h1
  simp only [Nat.add_zero] at hst
  refine ⟨(cur.toList.take off ++ u.cells.toList ++ cur.toList.drop (off + u.cells.toList.length)).toArray, ?_, ?_, ?_⟩
  · unfold storeVar
    simp only [Sem.run_bind, run_sizeOf hT, Result.andThen_ok]
    rw [if_neg (by simpa using hl)]
    exact hst
  · simp only [List.size_toArray, List.length_append, List.length_take, List.length_drop, Array.length_toList]
    omega
  · intro i
    simp only [List.getElem?_toArray]
    have hlt : (cur.toList.take off).length = off := by simp; omega
    by_cases hi1 : i < off
    · rw [if_neg (by omega), List.append_assoc, List.getElem?_append_left (by omega), List.getElem?_take, if_pos hi1]
      simp
    · by_cases hi2 : i < off + X.size
      · rw [if_pos (by omega), List.getElem?_append_left (by simp; omega), List.getElem?_append_right (by omega), hlt]
        simp
      · rw [if_neg (by omega), List.getElem?_append_right (by simp; omega)]
        simp only [List.length_append, hlt, Array.length_toList, List.getElem?_drop]
        rw [hl]
        have : off + X.size + (i - (off + X.size)) = i := by omega
        rw [this]
        simp

theorem setRow_heapEq (w : World) (b : Nat) (cur cur' : Array Value) (e : TypeId) (fr) (hg : w.heap[b]? = some (.cells cur e fr)) : (w.setRow b cur').heap = w.heap.setIfInBounds b (.cells cur' e fr) := by
  apply Array.ext_getElem?
  intro i
  rw [Array.getElem?_setIfInBounds]
  by_cases h : b = i
  · subst h
    rw [if_pos rfl, setRow_heap w b cur cur' e fr hg]
    have := (Array.getElem?_eq_some_iff.1 hg).1
    simp [this]
  · rw [if_neg h]
    exact setRow_other w b i cur' (fun e => h e.symm)

theorem exec_store {ρ : Operand → Value} {ad : Addr} {w w' : World} (ho : o.op = .store T x y) (hu : ρ x = .pointer (some ad)) (hrun : (storeVar T ad (ρ y)).run P w = .ok () w') : (execOp ρ o).run P w = .ok .skip w' := by
  unfold execOp
  simp only [ho, hu, Instr.storeAt, Instr.sureAddr, Sem.run_bind, Sem.run_pure, Result.andThen_ok, hrun]
theorem rep_tup0 {φ F w} : repAV φ F w (.tup 0 (fun _ => junkA)) undef := by
  simp only [repAV]; exact ⟨[], rfl, rfl, fun j v hv => by simp at hv⟩
/-- A store into a variable. -/
theorem OpS.store {id : Id} {off k : Nat} {X : TI} {g ns : Nat → C} {u : AV} (ho : o.op = .store T x y) (hx : ae x = some (.one (.ptr id off))) (hy : ae y = some u) (hu : upk u = some (X.size, ns)) (hT : tiOf P T = some X) (hle : off + X.size ≤ k) :
    OpS P G o ae [] [(id, .var k g)] [(id, some (.var k (setV k off X.size ns g)))] [] (.tup 0 (fun _ => junkA)) :=
  .change (fun φ F w ρ hs hop r b hr hor hb => by
    have h1 := hop x (by simp [ho, Op.operands]) _ hx
    have h2 := hop y (by simp [ho, Op.operands]) _ hy
    simp only [repAV, repC] at h1
    obtain ⟨r', b', hr', hb', hxv⟩ := h1
    rw [hr] at hr'; cases hr'
    rw [hb] at hb'; cases hb'
    have h3 := upk_rep hu h2
    obtain ⟨b', arr, e, k1, k2, k3, k4⟩ := hor
    rw [hb] at k1; cases k1
    have hlen3 : (ρ y).cells.size = X.size := by simpa using h3.1
    have hlenk : arr.size = k := by simpa using k3
    have h1c : ∀ v ∈ (ρ y).cells.toList, v.oneCell' = true := by
      intro v hv
      obtain ⟨i, hi, he⟩ := List.getElem_of_mem hv
      exact repC.one _ _ (h3.2 i v (by rw [List.getElem?_eq_getElem hi, he]))
    obtain ⟨cur', hrun, hsz, hget⟩ := run_storeVar_at hT w b off arr e k2 (ρ y) hlen3 (by omega) h1c
    refine ⟨undef, .cells cur' e (0, 0), .skip, w.setRow b cur', exec_store ho hxv hrun, .inr ⟨rfl, rfl⟩, setRow_heapEq w b arr cur' e (0, 0) k2, rfl, rfl, rfl, ?_⟩
    intro hkeep
    have hlat : Later φ F w φ F (w.setRow b cur') := ⟨fun _ h => h, hkeep, fun _ _ h => h⟩
    refine ⟨⟨b, cur', e, hb, setRow_heap w b arr cur' e (0, 0) k2, by simp; omega, ?_⟩, rep_tup0⟩
    intro i v hv
    have hik : i < k := by have := (List.getElem?_eq_some_iff.1 hv).1; simp at this; omega
    have hv' : cur'[i]? = some v := by simpa using hv
    rw [hget i] at hv'
    rw [setV_eq hle i hik]
    split at hv'
    · rename_i hi
      rw [if_pos hi]
      exact repC.later hlat _ _ (h3.2 (i - off) v (by simpa using hv'))
    · rename_i hi
      rw [if_neg hi]
      exact repC.later hlat _ _ (k4 i v (by simpa using hv')))
    (fun φ F w r h hn => by obtain ⟨b, _, _, h1, _⟩ := h; rw [hn] at h1; cases h1)
theorem mul_add_lt {i k j n : Nat} (hi : i < n) (hj : j < k) : i * k + j < n * k := by
  have := Nat.mul_le_mul_right k hi
  rw [Nat.succ_mul] at this
  omega
theorem cell_eq {i i' k j j' : Nat} (hj : j < k) (hj' : j' < k) (h : i * k + j = i' * k + j') : i = i' ∧ j = j' := by
  have h1 : (i * k + j) / k = i := by rw [Nat.mul_comm, Nat.mul_add_div (by omega), Nat.div_eq_of_lt hj, Nat.add_zero]
  have h2 : (i' * k + j') / k = i' := by rw [Nat.mul_comm, Nat.mul_add_div (by omega), Nat.div_eq_of_lt hj', Nat.add_zero]
  have h3 : i = i' := by rw [← h1, ← h2, h]
  subst h3
  exact ⟨rfl, by omega⟩
/-- One element of a row anew. -/
def updR {α : Type} (i : Nat) (h : α) (g : Nat → α) : Nat → α := fun i' => if i' = i then h else g i'
/-- A store into a row: of a row of any make, by what its cells are. -/
theorem store_row {id : Id} {ob ob' : AObj} {i j e k n : Nat} {X : TI} {g ns : Nat → Nat → C} {c : Nat → C} {u : AV} (ho : o.op = .store T x y) (hx : ae x = some (.one (.ptrR id i j))) (hy : ae y = some u) (hu : upk u = some (X.size, c)) (hT : tiOf P T = some X) (hi : i < n) (hle : j + X.size ≤ k)
    (hob : ∀ φ F w r, objRep φ F w r ob → r.k = k ∧ n ≤ r.cap ∧ r.cap ≤ maxLen ∧ ((r.b = none ∧ r.cap = 0) ∨ ∃ b cur, r.b = some b ∧ w.heap[b]? = some (.cells cur e (0, 0)) ∧ cur.size = r.cap * k ∧ cellsAt (repC φ F w) cur k n g))
    (hob' : ∀ φ F w r, r.k = k → n ≤ r.cap → r.cap ≤ maxLen → (∃ b cur, r.b = some b ∧ w.heap[b]? = some (.cells cur e (0, 0)) ∧ cur.size = r.cap * k ∧ cellsAt (repC φ F w) cur k n (fun i' j' => if i' = i ∧ j ≤ j' ∧ j' < j + X.size then c (j' - j) else g i' j')) → objRep φ F w r ob') :
    OpS P G o ae [] [(id, ob)] [(id, some ob')] [] (.tup 0 (fun _ => junkA)) :=
  .change (fun φ F w ρ hs hop r b hr hor hb => by
    have h1 := hop x (by simp [ho, Op.operands]) _ hx
    have h2 := hop y (by simp [ho, Op.operands]) _ hy
    simp only [repAV, repC] at h1
    obtain ⟨r', b', hr', hb', hxv⟩ := h1
    rw [hr] at hr'; cases hr'
    rw [hb] at hb'; cases hb'
    have h3 := upk_rep hu h2
    obtain ⟨k1, k2, k3, k4⟩ := hob _ _ _ _ hor
    rcases k4 with ⟨k5, _⟩ | ⟨b', cur, k5, k6, k7, k8⟩
    · rw [hb] at k5; cases k5
    rw [hb] at k5; cases k5
    have hlen3 : (ρ y).cells.size = X.size := by simpa using h3.1
    have h1c : ∀ v ∈ (ρ y).cells.toList, v.oneCell' = true := by
      intro v hv
      obtain ⟨q, hq, he⟩ := List.getElem_of_mem hv
      exact repC.one _ _ (h3.2 q v (by rw [List.getElem?_eq_getElem hq, he]))
    have hin : i * k + j + X.size ≤ cur.size := by
      rw [k7]
      have := Nat.mul_le_mul_right k (show i + 1 ≤ r.cap by omega)
      rw [Nat.add_mul] at this
      omega
    obtain ⟨cur', hrun, hsz, hget⟩ := run_storeVar_at hT w b (i * k + j) cur e k6 (ρ y) hlen3 hin h1c
    rw [k1] at hxv
    refine ⟨undef, .cells cur' e (0, 0), .skip, w.setRow b cur', exec_store ho hxv hrun, .inr ⟨rfl, rfl⟩, setRow_heapEq w b cur cur' e (0, 0) k6, rfl, rfl, rfl, ?_⟩
    intro hkeep
    have hlat : Later φ F w φ F (w.setRow b cur') := ⟨fun _ h => h, hkeep, fun _ _ h => h⟩
    refine ⟨hob' _ _ _ _ k1 k2 k3 ⟨b, cur', hb, setRow_heap w b cur cur' e (0, 0) k6, by omega, ?_⟩, rep_tup0⟩
    intro i' j' hi' hj'
    rw [hget]
    dsimp only
    by_cases hc : i' = i ∧ j ≤ j' ∧ j' < j + X.size
    · obtain ⟨rfl, hc1, hc2⟩ := hc
      rw [if_pos (by omega)]
      have hlt : i' * k + j' - (i' * k + j) = j' - j := by omega
      rw [hlt, if_pos ⟨rfl, hc1, hc2⟩]
      obtain ⟨v, hv, hrr⟩ := h3.get (j := j' - j) (by omega)
      exact ⟨v, by simpa using hv, repC.later hlat _ _ hrr⟩
    · have hne : ¬ (i * k + j ≤ i' * k + j' ∧ i' * k + j' < i * k + j + X.size) := by
        rintro ⟨a1, a2⟩
        apply hc
        have hd : ∃ q, q < X.size ∧ i' * k + j' = i * k + (j + q) := ⟨i' * k + j' - (i * k + j), by omega, by omega⟩
        obtain ⟨q, hq, he⟩ := hd
        obtain ⟨e1, e2⟩ := cell_eq hj' (show j + q < k by omega) he
        exact ⟨e1, by omega, by omega⟩
      rw [if_neg hne, if_neg hc]
      obtain ⟨v, hv, hrr⟩ := k8 i' j' hi' hj'
      exact ⟨v, hv, repC.later hlat _ _ hrr⟩)
    (fun φ F w r h hn => by
      obtain ⟨k1, k2, k3, k4⟩ := hob _ _ _ _ h
      rcases k4 with ⟨_, k5⟩ | ⟨b', cur, k5, _⟩
      · omega
      · rw [hn] at k5; cases k5)
theorem OpS.storeR {id : Id} {i j e k n : Nat} {X : TI} {g : Nat → Nat → D} {c : Nat → C} {u : AV} (ho : o.op = .store T x y) (hx : ae x = some (.one (.ptrR id i j))) (hy : ae y = some u) (hu : upk u = some (X.size, c)) (hcl : closedTo X.size c = true) (hT : tiOf P T = some X) (hi : i < n) (hle : j + X.size ≤ k) :
    OpS P G o ae [] [(id, .row e k n g)] [(id, some (.row e k n (updR i (setV k j X.size (fun q => (c q).toD) (g i)) g)))] [] (.tup 0 (fun _ => junkA)) :=
  store_row (g := fun i j => .d (g i j)) (ns := fun _ => c) ho hx hy hu hT hi hle (fun φ F w r h => h) (fun φ F w r h1 h2 h3 ⟨b, cur, h4, h5, h6, h7⟩ => ⟨h1, h2, h3, .inr ⟨b, cur, h4, h5, h6, fun i' j' hi' hj' => by
    obtain ⟨v, hv, hr⟩ := h7 i' j' hi' hj'
    refine ⟨v, hv, ?_⟩
    unfold updR
    dsimp only at hr ⊢
    by_cases h : i' = i
    · subst h
      simp only [if_true]
      rw [setV_eq hle j' hj']
      by_cases hc : j ≤ j' ∧ j' < j + X.size
      · rw [if_pos ⟨rfl, hc⟩] at hr
        rw [if_pos hc, ← closedTo_spec hcl (j' - j) (by omega)]; exact hr
      · rw [if_neg (fun h => hc h.2)] at hr
        rw [if_neg hc]; exact hr
    · rw [if_neg (fun h' => h h'.1)] at hr
      rw [if_neg h]; exact hr⟩⟩)
theorem OpS.storeRC {id : Id} {i j e k n : Nat} {X : TI} {g : Nat → Nat → C} {c : Nat → C} {u : AV} (ho : o.op = .store T x y) (hx : ae x = some (.one (.ptrR id i j))) (hy : ae y = some u) (hu : upk u = some (X.size, c)) (hT : tiOf P T = some X) (hi : i < n) (hle : j + X.size ≤ k) :
    OpS P G o ae [] [(id, .rowC e k n g)] [(id, some (.rowC e k n (updR i (setV k j X.size c (g i)) g)))] [] (.tup 0 (fun _ => junkA)) :=
  store_row (g := g) (ns := fun _ => c) ho hx hy hu hT hi hle (fun φ F w r h => h) (fun φ F w r h1 h2 h3 ⟨b, cur, h4, h5, h6, h7⟩ => ⟨h1, h2, h3, .inr ⟨b, cur, h4, h5, h6, fun i' j' hi' hj' => by
    obtain ⟨v, hv, hr⟩ := h7 i' j' hi' hj'
    refine ⟨v, hv, ?_⟩
    unfold updR
    dsimp only at hr ⊢
    by_cases h : i' = i
    · subst h
      simp only [if_true]
      rw [setV_eq hle j' hj']
      by_cases hc : j ≤ j' ∧ j' < j + X.size
      · rw [if_pos ⟨rfl, hc⟩] at hr
        rw [if_pos hc]; exact hr
      · rw [if_neg (fun h => hc h.2)] at hr
        rw [if_neg hc]; exact hr
    · rw [if_neg (fun h' => h h'.1)] at hr
      rw [if_neg h]; exact hr⟩⟩)

/-! ### addresses -/
def addO : Nat → Nat → Nat
  | 0, i => i
  | n + 1, i => n + 1 + i
theorem addO_eq (n i : Nat) : addO n i = n + i := by cases n with | zero => simp [addO] | succ n => rfl
def mulO : Nat → Nat → Nat
  | i, 1 => i
  | i, s => i * s
theorem mulO_eq (i s : Nat) : mulO i s = i * s := by unfold mulO; split <;> simp
theorem OpS.idxArr {id : Id} {off : Nat} {k : IntKind} {a : Int} {X Y : TI} {n : Nat} {T' : TypeId} (ho : o.op = .indexAddr T x y) (hx : ae x = some (.one (.ptr id off))) (hy : ae y = some (AI k a)) (hT : tiOf P T = some X) (hk : X.k = .array n T') (hT' : tiOf P T' = some Y)
    (h0 : 0 ≤ a ∧ a < n) : OpS P G o ae [] [] [] [] (.one (.ptr id (addO off (mulO a.toNat Y.size)))) :=
  .quiet fun φ F w ρ hs hop => by
    have hi := rep_raw (hop y (by simp [ho, Op.operands]) _ hy)
    have h2 := hop x (by simp [ho, Op.operands]) _ hx
    simp only [repAV, repC] at h2
    obtain ⟨r, b, hr, hb, hxv⟩ := h2
    obtain ⟨i1, d1, _, h4, _, _, _, h5⟩ := tiOf_spec hT
    have h6 := tk_array (h5.trans hk)
    subst h6
    refine ⟨.pointer (some ⟨b, off + a.toNat * Y.size, none⟩), ?_, by simp only [repAV, repC, addO_eq, mulO_eq]; exact ⟨r, b, hr, hb, rfl⟩⟩
    unfold execOp
    simp only [ho, hxv, hi, Instr.indexAt, asIntOf, Instr.sureAddr, Sem.run_bind, Sem.run_pure, run_underlying h4, Result.andThen_ok, h0.1, h0.2, and_self, if_true, run_sizeOf hT', addr_add]
theorem OpS.idxArrR {id : Id} {i j : Nat} {k : IntKind} {a : Int} {X Y : TI} {n : Nat} {T' : TypeId} (ho : o.op = .indexAddr T x y) (hx : ae x = some (.one (.ptrR id i j))) (hy : ae y = some (AI k a)) (hT : tiOf P T = some X) (hk : X.k = .array n T') (hT' : tiOf P T' = some Y)
    (h0 : 0 ≤ a ∧ a < n) : OpS P G o ae [] [] [] [] (.one (.ptrR id i (addO j (mulO a.toNat Y.size)))) :=
  .quiet fun φ F w ρ hs hop => by
    have hi := rep_raw (hop y (by simp [ho, Op.operands]) _ hy)
    have h2 := hop x (by simp [ho, Op.operands]) _ hx
    simp only [repAV, repC] at h2
    obtain ⟨r, b, hr, hb, hxv⟩ := h2
    obtain ⟨i1, d1, _, h4, _, _, _, h5⟩ := tiOf_spec hT
    have h6 := tk_array (h5.trans hk)
    subst h6
    refine ⟨.pointer (some ⟨b, i * r.k + j + a.toNat * Y.size, none⟩), ?_, by simp only [repAV, repC, addO_eq, mulO_eq]; exact ⟨r, b, hr, hb, by rw [Nat.add_assoc]⟩⟩
    unfold execOp
    simp only [ho, hxv, hi, Instr.indexAt, asIntOf, Instr.sureAddr, Sem.run_bind, Sem.run_pure, run_underlying h4, Result.andThen_ok, h0.1, h0.2, and_self, if_true, run_sizeOf hT', addr_add]
/-- From a place of a frozen record on. -/
def fsub (s off : Nat) (g : Nat → D) : D := match s with
  | 1 => .fptr 1 (fun _ => g off)
  | s => .fptr s (sh off g)
theorem fsub_rep {F w b off s o' k} {g : Nat → D} (hF : F b) (h : ∀ j, j < k → ∃ x, w.cell? ⟨b, off + j, none⟩ = some x ∧ repD F w (g j) x) (hle : o' + s ≤ k) : repD F w (fsub s o' g) (.pointer (some ⟨b, off + o', none⟩)) := by
  unfold fsub
  split
  · simp only [repD]
    refine ⟨b, off + o', rfl, hF, fun j hj => ?_⟩
    have : j = 0 := by omega
    subst this
    exact h o' (by omega)
  · simp only [repD]
    refine ⟨b, off + o', rfl, hF, fun j hj => ?_⟩
    obtain ⟨x, h1, h2⟩ := h (o' + j) (by omega)
    exact ⟨x, by rw [Nat.add_assoc]; exact h1, by rw [sh_eq]; exact h2⟩
theorem OpS.idxArrF {m : Nat} {g : Nat → D} {k : IntKind} {a : Int} {X Y : TI} {n : Nat} {T' : TypeId} (ho : o.op = .indexAddr T x y) (hx : ae x = some (.one (.d (.fptr m g)))) (hy : ae y = some (AI k a)) (hT : tiOf P T = some X) (hk : X.k = .array n T') (hT' : tiOf P T' = some Y)
    (h0 : 0 ≤ a ∧ a < n) (hm : n * Y.size ≤ m) : OpS P G o ae [] [] [] [] (.one (.d (fsub Y.size (mulO a.toNat Y.size) g))) :=
  .quiet fun φ F w ρ hs hop => by
    have hi := rep_raw (hop y (by simp [ho, Op.operands]) _ hy)
    have h2 := hop x (by simp [ho, Op.operands]) _ hx
    simp only [repAV, repC, repD] at h2
    obtain ⟨b, off, hxv, hF, hrow⟩ := h2
    obtain ⟨i1, d1, _, h4, _, _, _, h5⟩ := tiOf_spec hT
    have h6 := tk_array (h5.trans hk)
    subst h6
    refine ⟨.pointer (some ⟨b, off + a.toNat * Y.size, none⟩), ?_, ?_⟩
    · unfold execOp
      simp only [ho, hxv, hi, Instr.indexAt, asIntOf, Instr.sureAddr, Sem.run_bind, Sem.run_pure, run_underlying h4, Result.andThen_ok, h0.1, h0.2, and_self, if_true, run_sizeOf hT', addr_add]
    · simp only [repAV, repC, mulO_eq]
      refine fsub_rep hF hrow ?_
      have : a.toNat + 1 ≤ n := by omega
      have := Nat.mul_le_mul_right Y.size this
      rw [Nat.add_mul] at this
      omega
theorem OpS.idxRow {id : Id} {lo n : Nat} {ob : AObj} {g : Nat → Nat → D} {g' : Nat → Nat → C} {k : Nat} {j : IntKind} {a : Int} {X Y : TI} {T' : TypeId} (ho : o.op = .indexAddr T x y) (hx : ae x = some (.one (.sl id lo n))) (hy : ae y = some (AI j a)) (hT : tiOf P T = some X) (hk : X.k = .slice T') (hT' : tiOf P T' = some Y)
    (h0 : 0 ≤ a ∧ a < n) (hob : ob = .row T' Y.size k g ∨ ob = .rowC T' Y.size k g') : OpS P G o ae [(id, ob)] [] [] [] (.one (.ptrR id (addO lo a.toNat) 0)) :=
  .quiet fun φ F w ρ hs hop => by
    have hi := rep_raw (hop y (by simp [ho, Op.operands]) _ hy)
    have h2 := hop x (by simp [ho, Op.operands]) _ hx
    simp only [repAV, repC] at h2
    obtain ⟨r, hr, hxv, hcap⟩ := h2
    obtain ⟨r', hr', hor⟩ := hs.obj id ob (by simp [ofIn, List.lookup_cons])
    rw [hr] at hr'; cases hr'
    have hk2 : r.k = Y.size ∧ ∃ b, r.b = some b := by
      rcases hob with rfl | rfl
      · obtain ⟨k1, k2, k3, k4⟩ := hor
        rcases k4 with ⟨_, k6⟩ | ⟨b, cur, k6, _⟩
        · omega
        · exact ⟨k1, b, k6⟩
      · obtain ⟨k1, k2, k3, k4⟩ := hor
        rcases k4 with ⟨_, k6⟩ | ⟨b, cur, k6, _⟩
        · omega
        · exact ⟨k1, b, k6⟩
    obtain ⟨hk2, b, k6⟩ := hk2
    obtain ⟨i1, d1, _, h4, _, _, _, h5⟩ := tiOf_spec hT
    have h6 := tk_slice (h5.trans hk)
    subst h6
    refine ⟨.pointer (some ⟨b, (lo + a.toNat) * r.k + 0, none⟩), ?_, by simp only [repAV, repC, addO_eq]; exact ⟨r, b, hr, k6, rfl⟩⟩
    unfold execOp
    simp only [ho, hxv, hi, k6, Option.map_some, Instr.indexAt, asIntOf, Instr.sureAddr, Sem.run_bind, Sem.run_pure, run_underlying h4, Result.andThen_ok, h0.1, h0.2, and_self, if_true, run_sizeOf hT', addr_add, hk2, Nat.add_mul, Nat.add_zero]
theorem OpS.idxLst {n k : Nat} {g : Nat → Nat → D} {j : IntKind} {a : Int} {X Y : TI} {T' : TypeId} (ho : o.op = .indexAddr T x y) (hx : ae x = some (.one (.d (.lst k n g)))) (hy : ae y = some (AI j a)) (hT : tiOf P T = some X) (hk : X.k = .slice T') (hT' : tiOf P T' = some Y)
    (h0 : 0 ≤ a ∧ a < n) (hks : Y.size = k) : OpS P G o ae [] [] [] [] (.one (.d (.fptr k (g a.toNat)))) :=
  .quiet fun φ F w ρ hs hop => by
    have hi := rep_raw (hop y (by simp [ho, Op.operands]) _ hy)
    have h2 := hop x (by simp [ho, Op.operands]) _ hx
    simp only [repAV, repC, repD] at h2
    obtain ⟨A, cap, hxv, hcap, hmax, hz⟩ := h2
    rcases hz with hz | ⟨b, off, rfl, hF, hrow⟩
    · omega
    obtain ⟨i1, d1, _, h4, _, _, _, h5⟩ := tiOf_spec hT
    have h6 := tk_slice (h5.trans hk)
    subst h6
    refine ⟨.pointer (some ⟨b, off + a.toNat * k, none⟩), ?_, ?_⟩
    · unfold execOp
      simp only [ho, hxv, hi, Instr.indexAt, asIntOf, Instr.sureAddr, Sem.run_bind, Sem.run_pure, run_underlying h4, Result.andThen_ok, h0.1, h0.2, and_self, if_true, run_sizeOf hT', addr_add, hks]
    · simp only [repAV, repC, repD]
      refine ⟨b, off + a.toNat * k, rfl, hF, fun i hi => ?_⟩
      obtain ⟨x, hx1, hx2⟩ := hrow a.toNat i (by omega) hi
      exact ⟨x, by rw [Nat.add_assoc]; exact hx1, hx2⟩
theorem run_fieldPlace {P : Program} {f : Field} {Y : TI} (hT' : tiOf P f.type = some Y) (hne : Y.size ≠ 0) (b off : Nat) (w : World) : (fieldPlace ⟨b, off, none⟩ f).run P w = .ok ⟨b, off + f.offset, none⟩ w := by
  unfold fieldPlace
  simp only [Sem.run_bind, run_sizeOf hT', Result.andThen_ok]
  rw [if_neg hne]
  simp only [Sem.run_pure, addr_add]
theorem exec_fieldAddr {ρ : Operand → Value} {i fo b off : Nat} {X Y : TI} {fs : List (Nat × TypeId)} {T' : TypeId} {w : World} (ho : o.op = .fieldAddr T x i) (hu : ρ x = .pointer (some ⟨b, off, none⟩)) (hT : tiOf P T = some X) (hk : X.k = .struct fs) (hf : fs[i]? = some (fo, T')) (hT' : tiOf P T' = some Y) (hne : Y.size ≠ 0) :
    (execOp ρ o).run P w = .ok (.value (.pointer (some ⟨b, off + fo, none⟩))) w := by
  obtain ⟨i1, d1, _, h4, _, _, _, h5⟩ := tiOf_spec hT
  obtain ⟨gs, rfl, hgs⟩ := tk_struct (h5.trans hk)
  have hg : ∃ f, gs[i]? = some f ∧ f.offset = fo ∧ f.type = T' := by
    rw [← hgs] at hf
    simp only [List.getElem?_map, Array.getElem?_toList, Option.map_eq_some_iff, Prod.mk.injEq] at hf
    obtain ⟨f, h6, h7, h8⟩ := hf
    exact ⟨f, h6, h7, h8⟩
  obtain ⟨f, hf1, rfl, rfl⟩ := hg
  unfold execOp
  simp only [ho, hu, Instr.fieldAt, Instr.sureAddr, Sem.run_bind, Sem.run_pure, run_underlying h4, Result.andThen_ok, hf1, run_fieldPlace hT' hne]
theorem OpS.fldPtr {id : Id} {off i fo : Nat} {X Y : TI} {fs : List (Nat × TypeId)} {T' : TypeId} (ho : o.op = .fieldAddr T x i) (hx : ae x = some (.one (.ptr id off))) (hT : tiOf P T = some X) (hk : X.k = .struct fs) (hf : fs[i]? = some (fo, T')) (hT' : tiOf P T' = some Y) (hne : Y.size ≠ 0) :
    OpS P G o ae [] [] [] [] (.one (.ptr id (off + fo))) :=
  .quiet fun φ F w ρ hs hop => by
    have h2 := hop x (by simp [ho, Op.operands]) _ hx
    simp only [repAV, repC] at h2
    obtain ⟨r, b, hr, hb, hxv⟩ := h2
    exact ⟨_, exec_fieldAddr ho hxv hT hk hf hT' hne, by simp only [repAV, repC]; exact ⟨r, b, hr, hb, rfl⟩⟩
theorem OpS.fldPtrR {id : Id} {i0 j i fo : Nat} {X Y : TI} {fs : List (Nat × TypeId)} {T' : TypeId} (ho : o.op = .fieldAddr T x i) (hx : ae x = some (.one (.ptrR id i0 j))) (hT : tiOf P T = some X) (hk : X.k = .struct fs) (hf : fs[i]? = some (fo, T')) (hT' : tiOf P T' = some Y) (hne : Y.size ≠ 0) :
    OpS P G o ae [] [] [] [] (.one (.ptrR id i0 (j + fo))) :=
  .quiet fun φ F w ρ hs hop => by
    have h2 := hop x (by simp [ho, Op.operands]) _ hx
    simp only [repAV, repC] at h2
    obtain ⟨r, b, hr, hb, hxv⟩ := h2
    exact ⟨_, exec_fieldAddr ho hxv hT hk hf hT' hne, by simp only [repAV, repC]; exact ⟨r, b, hr, hb, by rw [Nat.add_assoc]⟩⟩
theorem OpS.fldF {i fo k : Nat} {g : Nat → D} {X Y : TI} {fs : List (Nat × TypeId)} {T' : TypeId} (ho : o.op = .fieldAddr T x i) (hx : ae x = some (.one (.d (.fptr k g)))) (hT : tiOf P T = some X) (hk : X.k = .struct fs) (hf : fs[i]? = some (fo, T')) (hT' : tiOf P T' = some Y) (hne : Y.size ≠ 0) (hle : fo + Y.size ≤ k) :
    OpS P G o ae [] [] [] [] (.one (.d (fsub Y.size fo g))) :=
  .quiet fun φ F w ρ hs hop => by
    have h2 := hop x (by simp [ho, Op.operands]) _ hx
    simp only [repAV, repC, repD] at h2
    obtain ⟨b, off, hxv, hF, hrow⟩ := h2
    exact ⟨_, exec_fieldAddr ho hxv hT hk hf hT' hne, by simp only [repAV, repC]; exact fsub_rep hF hrow hle⟩
theorem OpS.nilC {v : AV} (ho : o.op = .nilCheck x) (hx : ae x = some v) (hn : isNil v = some false) : OpS P G o ae [] [] [] [] v :=
  .quiet fun φ F w ρ hs hop => by
    have h2 := hop x (by simp [ho, Op.operands]) _ hx
    obtain ⟨p, h3, h4⟩ := isNil_rep hn h2
    cases p with
    | none => simp at h4
    | some p => exact ⟨.pointer (some p), by unfold execOp; simp only [ho, h3, Sem.run_pure], by rw [← h3]; exact h2⟩
end
end Go.Bw
