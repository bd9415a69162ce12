/- Abstract walk over contents given by functions, part 4: types; loads; freezing; what a call hands back; contracts. -/
import Derived.Test.YticpndkcicgenaaDoorBw3
set_option linter.unusedVariables false
set_option linter.unusedSimpArgs false
namespace Go.Bw
open Go.RowKit

inductive TK where
  | bool | int (k : IntKind) | string | pointer (e : TypeId) | slice (e : TypeId) | array (n : Nat) (e : TypeId) | map (k e : TypeId) | struct (fs : List (Nat × TypeId)) | other
structure TI where
  k : TK
  size : Nat
  bytes : Nat
  zero : Value

def tkOf : TypeDesc → TK
  | .bool => .bool
  | .int k => .int k
  | .string => .string
  | .pointer e => .pointer e
  | .slice e => .slice e
  | .array n e => .array n e
  | .map k e => .map k e
  | .struct fs => .struct (fs.toList.map fun f => (f.offset, f.type))
  | _ => .other
def TK.agg : TK → Bool
  | .struct _ | .array _ _ => true
  | _ => false
def tiOf (P : Program) (T : TypeId) : Option TI :=
  match P.info? T, P.underlying T with
  | some i, some d => match i.zero with | some z => some ⟨tkOf d, i.size, i.bytes, z⟩ | none => none
  | _, _ => none

/-- The table of types, as a tree; beside each type its zero value's cells. -/
inductive Tr where
  | leaf
  | node (T : TypeId) (x : TI) (z : Nat → Value) (l r : Tr)
def Tr.toList : Tr → List (TypeId × TI × (Nat → Value))
  | .leaf => []
  | .node T x z l r => (T, x, z) :: (l.toList ++ r.toList)
def Tr.get : Tr → TypeId → Option (TI × (Nat → Value))
  | .leaf, _ => none
  | .node T x z l r, t => bif Nat.beq t T then some (x, z) else bif Nat.blt t T then l.get t else r.get t
theorem Tr.get_mem : ∀ {t : Tr} {T : TypeId} {p}, t.get T = some p → (T, p) ∈ t.toList
  | .leaf, T, p, h => by simp [Tr.get] at h
  | .node T' x z l r, T, p, h => by
    unfold Tr.get at h
    cases h1 : Nat.beq T T' with
    | true =>
      rw [h1] at h
      simp only [cond_true, Option.some.injEq] at h
      subst h
      have : T = T' := Nat.eq_of_beq_eq_true h1
      subst this
      simp [Tr.toList]
    | false =>
      rw [h1] at h
      simp only [cond_false] at h
      cases h2 : Nat.blt T T' with
      | true => rw [h2] at h; simp only [cond_true] at h; have := Tr.get_mem h; simp [Tr.toList, this]
      | false => rw [h2] at h; simp only [cond_false] at h; have := Tr.get_mem h; simp [Tr.toList, this]
structure Tab (P : Program) where
  t : Tr
  ok : t.toList.map (fun p => tiOf P p.1) = t.toList.map (fun p => some p.2.1)
  okz : t.toList.map (fun p => (List.range p.2.1.size).map fun j => p.2.1.zero.cells[j]?) = t.toList.map (fun p => (List.range p.2.1.size).map fun j => some (p.2.2 j))
  oks : t.toList.all (fun p => p.2.1.zero.cells.size == p.2.1.size && p.2.1.zero.cells.toList.all okVB && (p.2.1.k.agg || p.2.1.size == 1)) = true

theorem lookup_mem {α β : Type} [BEq α] [LawfulBEq α] {l : List (α × β)} {a : α} {b : β} (h : l.lookup a = some b) : (a, b) ∈ l := by
  induction l with
  | nil => simp at h
  | cons p l ih =>
    obtain ⟨x, y⟩ := p
    rw [List.lookup_cons] at h
    cases hb : (a == x) with
    | true => rw [hb] at h; cases h; have : a = x := by simpa using hb
              subst this; simp
    | false => rw [hb] at h; exact List.mem_cons_of_mem _ (ih h)

structure TabOk (P : Program) (T : TypeId) (x : TI) (z : Nat → Value) : Prop where
  ti : tiOf P T = some x
  zs : x.zero.cells.size = x.size
  zc : ∀ j, j < x.size → x.zero.cells[j]? = some (z j) ∧ okV (z j)
  one : x.k.agg = false → x.size = 1
theorem map_eq_at {α β : Type} {l : List α} {f g : α → β} (h : l.map f = l.map g) {a : α} (ha : a ∈ l) : f a = g a := by
  induction l with
  | nil => cases ha
  | cons b l ih =>
    simp only [List.map_cons, List.cons.injEq] at h
    rcases List.mem_cons.1 ha with rfl | ha
    · exact h.1
    · exact ih h.2 ha
theorem Tab.get {P : Program} (X : Tab P) {T : TypeId} {x : TI} {z} (h : X.t.get T = some (x, z)) : TabOk P T x z := by
  have hm := Tr.get_mem h
  have h1 := map_eq_at X.ok hm
  have h2 := map_eq_at X.okz hm
  have h3 := List.all_eq_true.1 X.oks _ hm
  simp only [Bool.and_eq_true, Bool.or_eq_true, beq_iff_eq] at h1 h2 h3
  refine ⟨h1, h3.1.1, fun j hj => ?_, fun hag => ?_⟩
  · have h4 := map_eq_at h2 (List.mem_range.2 hj)
    refine ⟨h4, ?_⟩
    have h5 := List.all_eq_true.1 h3.1.2 (z j)
    apply okVB_ok
    apply h5
    rw [← Array.getElem?_toList] at h4
    exact List.mem_of_getElem? h4
  · rcases h3.2 with h4 | h4
    · rw [hag] at h4; cases h4
    · exact h4

/-- What the table says of the program. -/
theorem tiOf_spec {P : Program} {T : TypeId} {x : TI} (h : tiOf P T = some x) : ∃ i d, P.info? T = some i ∧ P.underlying T = some d ∧ i.zero = some x.zero ∧ i.size = x.size ∧ i.bytes = x.bytes ∧ tkOf d = x.k := by
  unfold tiOf at h
  split at h
  · rename_i i d h1 h2
    split at h
    · rename_i z hz
      cases h
      exact ⟨i, d, h1, h2, hz, rfl, rfl, rfl⟩
    · cases h
  · cases h
theorem tk_slice {d : TypeDesc} {e : TypeId} (h : tkOf d = .slice e) : d = .slice e := by cases d <;> simp [tkOf] at h; subst h; rfl
theorem tk_map {d : TypeDesc} {k e : TypeId} (h : tkOf d = .map k e) : d = .map k e := by cases d <;> simp [tkOf] at h; obtain ⟨rfl, rfl⟩ := h; rfl
theorem tk_array {d : TypeDesc} {n e} (h : tkOf d = .array n e) : d = .array n e := by cases d <;> simp [tkOf] at h; obtain ⟨rfl, rfl⟩ := h; rfl
theorem tk_int {d : TypeDesc} {k} (h : tkOf d = .int k) : d = .int k := by cases d <;> simp [tkOf] at h; subst h; rfl
theorem tk_string {d : TypeDesc} (h : tkOf d = .string) : d = .string := by cases d <;> simp [tkOf] at h; rfl
theorem tk_pointer {d : TypeDesc} {e} (h : tkOf d = .pointer e) : d = .pointer e := by cases d <;> simp [tkOf] at h; subst h; rfl
theorem tk_struct {d : TypeDesc} {fs} (h : tkOf d = .struct fs) : ∃ gs, d = .struct gs ∧ gs.toList.map (fun f => (f.offset, f.type)) = fs := by
  cases d <;> simp [tkOf] at h; exact ⟨_, rfl, h⟩

/-! ### loads -/
theorem run_isAgg {P : Program} {T : TypeId} {x : TI} (h : tiOf P T = some x) (w : World) : (isAgg T).run P w = .ok x.k.agg w := by
  obtain ⟨i, d, h1, h2, h3, h4, h5, h6⟩ := tiOf_spec h
  unfold isAgg
  rw [Sem.run_bind, run_underlying h2 w, ← h6]
  cases d <;> simp [tkOf, TK.agg]
theorem run_sizeOf {P : Program} {T : TypeId} {x : TI} (h : tiOf P T = some x) (w : World) : (sizeOf T).run P w = .ok x.size w := by
  obtain ⟨i, d, h1, h2, h3, h4, h5, h6⟩ := tiOf_spec h
  simp [sizeOf, typeInfo, h1, h4]
theorem run_zeroValue {P : Program} {T : TypeId} {x : TI} (h : tiOf P T = some x) (w : World) : (zeroValue T).run P w = .ok x.zero w := by
  obtain ⟨i, d, h1, h2, h3, h4, h5, h6⟩ := tiOf_spec h
  simp [zeroValue, typeInfo, h1, h3]

def packV (ag : Bool) (us : List Value) : Value := if ag then .agg us.toArray else us.headD undef
theorem addr_add (b off i : Nat) : (⟨b, off, none⟩ : Addr).add i = ⟨b, off + i, none⟩ := by unfold Addr.add; split <;> simp_all
theorem run_loadVar_at {P : Program} {T : TypeId} {x : TI} (h : tiOf P T = some x) (w : World) (b off : Nat) (us : List Value) (hl : us.length = x.size) (hne : x.k.agg = false → us.length = 1)
    (hc : ∀ j v, us[j]? = some v → w.cell? ⟨b, off + j, none⟩ = some v) : (loadVar T ⟨b, off, none⟩).run P w = .ok (packV x.k.agg us) w := by
  unfold loadVar
  simp only [Sem.run_bind, run_isAgg h w, Result.andThen_ok]
  cases hag : x.k.agg with
  | true =>
    have := run_loadCells_list (P := P) w ⟨b, off, none⟩ us (fun j v hj => by rw [addr_add]; exact hc j v hj)
    rw [hl] at this
    simp [run_sizeOf h w, this, packV]
  | false =>
    match us, hne hag with
    | [u], _ =>
      have := hc 0 u rfl
      simp only [Nat.add_zero] at this
      simp [run_load, this, packV]


/-! ### cells of contents -/
/-- What lies from a place on. -/
def sh {α : Type} : Nat → (Nat → α) → Nat → α
  | 0, g => g
  | n + 1, g => fun j => g (n + 1 + j)
theorem sh_eq {α : Type} (n : Nat) (g : Nat → α) (j : Nat) : sh n g j = g (n + j) := by cases n with | zero => rw [Nat.zero_add]; rfl | succ n => rfl
def pkA (ag : Bool) (s off : Nat) (g : Nat → C) : AV := match ag with | true => .agg s (sh off g) | false => .one (g off)
theorem repAV_pkA {φ F w ag s off g us} (hs : us.length = s) (hag : ag = false → s = 1) (h : ∀ j v, us[j]? = some v → repC φ F w (g (off + j)) v) : repAV φ F w (pkA ag s off g) (packV ag us) := by
  unfold pkA
  cases ag with
  | true => simp only [repAV, packV, if_pos]; exact ⟨us, rfl, hs, fun j v hv => by rw [sh_eq]; exact h j v hv⟩
  | false =>
    have := hag rfl
    match us, hs with
    | [u], _ => simp only [repAV, packV]; exact h 0 u rfl
    | [], hs => simp at hs; omega
    | _ :: _ :: _, hs => simp at hs; omega
def upk : AV → Option (Nat × (Nat → C))
  | .one c => some (1, fun _ => c)
  | .agg k g => some (k, g)
  | .tup _ _ => none
theorem upk_rep {φ F w v u k g} (hv : upk v = some (k, g)) (h : repAV φ F w v u) : repG φ F w k g u.cells.toList := by
  cases v with
  | one c =>
    simp only [repAV] at h
    cases hv
    have h1 := repC.one c u h
    have h2 : u.cells = #[u] := by cases u <;> simp_all [Value.cells, Value.oneCell']
    rw [h2]
    refine ⟨rfl, fun j x hx => ?_⟩
    cases j with
    | zero => simp at hx; subst hx; exact h
    | succ j => simp at hx
  | agg k' g' =>
    cases hv
    simp only [repAV] at h
    obtain ⟨us, rfl, h1, h2⟩ := h
    simpa [Value.cells, repG] using ⟨h1, h2⟩
  | tup n g => cases hv
def C.toD : C → D
  | .d x => x
  | _ => .raw undef
def C.isD : C → Bool
  | .d _ => true
  | _ => false
theorem C.toD_eq {c : C} (h : c.isD = true) : c = .d c.toD := by cases c <;> simp [C.isD, C.toD] at h ⊢
def closedTo : Nat → (Nat → C) → Bool
  | 0, _ => true
  | n + 1, g => closedTo n g && (g n).isD
theorem closedTo_spec : ∀ {n : Nat} {g : Nat → C}, closedTo n g = true → ∀ j, j < n → g j = .d (g j).toD
  | 0, g, _, j, hj => by omega
  | n + 1, g, h, j, hj => by
    simp only [closedTo, Bool.and_eq_true] at h
    by_cases e : j = n
    · subst e; exact C.toD_eq h.2
    · exact closedTo_spec h.1 j (by omega)

/-! ### Freezing -/
def dead (l : MIn) : MOut := l.map (fun p => (p.1, none))
theorem lookup_dead (l : MIn) (id : Id) : (dead l).lookup id = (l.lookup id).map fun _ => none := by
  induction l with
  | nil => rfl
  | cons p l ih =>
    obtain ⟨i, o⟩ := p
    simp only [dead, List.map_cons, List.lookup_cons]
    cases hb : (id == i) with
    | true => rfl
    | false => exact ih
theorem keys_dead (l : MIn) : keys (dead l) = keys l := by simp [keys, dead, Function.comp_def]
def isRows (l : MIn) : Prop := ∀ id o, l.lookup id = some o → ∃ e k n g, o = .row e k n g

def frzF (φ : Id → Option Ref) (F : Nat → Prop) (Z : MIn) : Nat → Prop := fun b => F b ∨ liveBlk φ (ofIn Z) b
/-- The rows of Z are frozen. -/
theorem SimM.freeze {G φ F m w} (h : SimM G φ F m w) {Z : MIn} (hz : ∀ id o, Z.lookup id = some o → m id = some o) :
    SimM G φ (frzF φ F Z) (putM m (dead Z)) w ∧ Since φ F m w φ (frzF φ F Z) (putM m (dead Z)) w := by
  have hp : ∀ id o, putM m (dead Z) id = some o → m id = some o ∧ Z.lookup id = none := by
    intro id o hid
    unfold putM at hid
    rw [lookup_dead] at hid
    cases hl : Z.lookup id with
    | some x => rw [hl] at hid; simp at hid
    | none => rw [hl] at hid; exact ⟨hid, rfl⟩
  have hlat : Later φ F w φ (frzF φ F Z) w := ⟨fun b hb => .inl hb, fun _ _ => rfl, fun _ _ h => h⟩
  refine ⟨⟨?_, ?_, ?_, ?_, ?_⟩, ?_⟩
  · intro id o hid
    obtain ⟨r, hr, ho⟩ := h.obj id o (hp id o hid).1
    exact ⟨r, hr, objRep.later hlat (fun _ _ => rfl) ho⟩
  · rintro b ⟨id, o, r, h1, h2, h3⟩
    obtain ⟨h4, h5⟩ := hp id o h1
    obtain ⟨h6, h7⟩ := h.live b ⟨id, o, r, h4, h2, h3⟩
    refine ⟨?_, h7⟩
    rintro (h8 | ⟨id2, o2, r2, h8, h9, h10⟩)
    · exact h6 h8
    · have := h.inj id id2 o o2 r r2 b h4 (hz _ _ h8) h2 h9 h3 h10
      subst this
      unfold ofIn at h8
      rw [h5] at h8; cases h8
  · intro id1 id2 o1 o2 r1 r2 b h1 h2
    exact h.inj id1 id2 o1 o2 r1 r2 b (hp _ _ h1).1 (hp _ _ h2).1
  · rintro b (hb | ⟨id, o, r, h1, h2, h3⟩)
    · exact h.frz b hb
    · exact (h.live b ⟨id, o, r, hz _ _ h1, h2, h3⟩).2
  · intro p hpG
    exact ⟨.inl (h.amb p hpG).1, (h.amb p hpG).2⟩
  · refine ⟨rfl, rfl, rfl, Nat.le_refl _, fun _ _ _ => rfl, fun b hb => .inl hb, ?_, ?_, fun _ _ _ => rfl⟩
    · rintro b (hb | ⟨id, o, r, h1, h2, h3⟩)
      · exact .inl hb
      · exact .inr (.inr ⟨id, o, r, hz _ _ h1, h2, h3⟩)
    · rintro b ⟨id, o, r, h1, h2⟩
      exact .inr ⟨id, o, r, (hp id o h1).1, h2⟩

/-- What may be taken for what: the same, but for what lies out of reach. -/
inductive CoD : D → D → Prop where
  | refl (d : D) : CoD d d
  | lst {k n : Nat} {g g' : Nat → Nat → D} : (∀ i j, i < n → j < k → CoD (g i j) (g' i j)) → CoD (.lst k n g) (.lst k n g')
  | fptr {k k' : Nat} {g g' : Nat → D} : k' ≤ k → (∀ j, j < k' → CoD (g j) (g' j)) → CoD (.fptr k g) (.fptr k' g')
  | nil (k : Nat) (g : Nat → Nat → D) : CoD (.raw (.slice none 0 0)) (.lst k 0 g)
theorem CoD.of_eq {d d' : D} (h : d = d') : CoD d d' := h ▸ .refl d
theorem CoD.rep {F w} {d d' : D} (h : CoD d d') : ∀ {u}, repD F w d u → repD F w d' u := by
  induction h with
  | refl => exact fun h => h
  | lst _ ih =>
    intro u h
    simp only [repD] at h ⊢
    obtain ⟨a, cap, h2, h3, h4, h5⟩ := h
    refine ⟨a, cap, h2, h3, h4, h5.imp id ?_⟩
    rintro ⟨b, off, h6, h7, h8⟩
    refine ⟨b, off, h6, h7, fun i j hi hj => ?_⟩
    obtain ⟨x, h9, h10⟩ := h8 i j hi hj
    exact ⟨x, h9, ih i j hi hj h10⟩
  | fptr hk _ ih =>
    intro u h
    simp only [repD] at h ⊢
    obtain ⟨b, off, h6, h7, h8⟩ := h
    refine ⟨b, off, h6, h7, fun j hj => ?_⟩
    obtain ⟨x, h9, h10⟩ := h8 j (by omega)
    exact ⟨x, h9, ih j hj h10⟩
  | nil k g =>
    intro u h
    simp only [repD] at h ⊢
    obtain ⟨rfl, _⟩ := h
    exact ⟨none, 0, rfl, Nat.le_refl _, Nat.zero_le _, by simp⟩
theorem later_frz {φ : Id → Option Ref} {F : Nat → Prop} {w : World} {Z : MIn} : Later φ F w φ (frzF φ F Z) w := ⟨fun b hb => .inl hb, fun _ _ => rfl, fun _ _ h => h⟩
/-- A part of a row that is frozen. -/
theorem cut_rep {G φ F m w} (h : SimM G φ F m w) {Z : MIn} (hz : ∀ id o, Z.lookup id = some o → m id = some o) {id : Id} {lo n e k nn : Nat} {g g' : Nat → Nat → D} (hl : Z.lookup id = some (.row e k nn g)) (hle : lo + n ≤ nn) (hg : ∀ i j, i < n → j < k → CoD (g (lo + i) j) (g' i j)) {u} (hu : repC φ F w (.sl id lo n) u) : repD (frzF φ F Z) w (.lst k n g') u := by
  simp only [repC, repD] at hu ⊢
  obtain ⟨r, hr, rfl, hcap⟩ := hu
  obtain ⟨r', hr', ho⟩ := h.obj id _ (hz _ _ hl)
  rw [hr] at hr'; cases hr'
  obtain ⟨hk, h1, h2, h3⟩ := ho
  refine ⟨_, _, rfl, by omega, by omega, ?_⟩
  rcases h3 with ⟨h4, h5⟩ | ⟨b, cur, h4, h5, h6, h7⟩
  · left; omega
  · right
    refine ⟨b, lo * r.k, by simp [h4], .inr ⟨id, _, r, hl, hr, h4⟩, fun i j hi hj => ?_⟩
    obtain ⟨x, hx, hxr⟩ := h7 (lo + i) j (by omega) hj
    refine ⟨x, ?_, ?_⟩
    · rw [cell_of_row w b _ cur e (0, 0) h5, hk, ← hx]
      congr 1
      rw [Nat.add_mul]; omega
    · have := repC.later (later_frz (Z := Z)) _ _ hxr
      simp only [repC] at this
      exact (hg i j hi hj).rep this

/-! ### Which ids are named -/
def allTo : Nat → (Nat → Bool) → Bool
  | 0, _ => true
  | n + 1, p => allTo n p && p n
theorem allTo_spec : ∀ {n : Nat} {p : Nat → Bool}, allTo n p = true → ∀ j, j < n → p j = true
  | 0, p, _, j, hj => by omega
  | n + 1, p, h, j, hj => by
    simp only [allTo, Bool.and_eq_true] at h
    by_cases e : j = n
    · subst e; exact h.2
    · exact allTo_spec h.1 j (by omega)
def C.inn (l : List Id) : C → Bool
  | .d _ => true
  | .sl id _ _ => idHas id l
  | .ptr id _ => idHas id l
  | .ptrR id _ _ => idHas id l
  | .mp id => idHas id l
  | .clo _ n caps => allTo n fun j => C.inn l (caps j)
  | .ifc _ c => C.inn l c
def AV.inn (l : List Id) : AV → Bool
  | .one c => c.inn l
  | .agg k g => allTo k fun j => (g j).inn l
  | .tup n g => allTo n fun j => AV.inn l (g j)
def AV.inns (l : List Id) : List AV → Bool
  | [] => true
  | c :: cs => AV.inn l c && AV.inns l cs
/-- That an object names these ids only. -/
def AObj.inn (l : List Id) : AObj → Prop
  | .var k g => (allTo k fun j => (g j).inn l) = true
  | .row _ _ _ _ => True
  | .rowC e k n g => ∀ i j, i < n → j < k → (g i j).inn l = true
  | .map _ _ => True
/-- Of objects without rows of cells it can be worked out. -/
def AObj.innB (l : List Id) : AObj → Bool
  | .var k g => allTo k fun j => (g j).inn l
  | .row _ _ _ _ => true
  | .rowC _ _ _ _ => false
  | .map _ _ => true
theorem AObj.inn_of {l : List Id} {o : AObj} (h : o.innB l = true) : o.inn l := by
  cases o with
  | var k g => exact h
  | row => trivial
  | rowC => cases h
  | map => trivial

theorem repC.ids {φ φ' : Id → Option Ref} {F w} {l : List Id} (h : ∀ id ∈ l, φ' id = φ id) : ∀ (c : C) (u : Value), C.inn l c = true → repC φ F w c u → repC φ' F w c u
  | .d x, u, _, hc => by simpa only [repC] using hc
  | .sl id lo n, u, hi, hc => by
    simp only [C.inn, idHas_iff] at hi
    simp only [repC] at hc ⊢
    rw [h id hi]; exact hc
  | .ptr id off, u, hi, hc => by
    simp only [C.inn, idHas_iff] at hi
    simp only [repC] at hc ⊢
    rw [h id hi]; exact hc
  | .ptrR id i j, u, hi, hc => by
    simp only [C.inn, idHas_iff] at hi
    simp only [repC] at hc ⊢
    rw [h id hi]; exact hc
  | .mp id, u, hi, hc => by
    simp only [C.inn, idHas_iff] at hi
    simp only [repC] at hc ⊢
    rw [h id hi]; exact hc
  | .clo f n caps, u, hi, hc => by
    simp only [C.inn] at hi
    simp only [repC] at hc ⊢
    obtain ⟨vs, h1, h2, h3⟩ := hc
    exact ⟨vs, h1, h2, fun j v hv => repC.ids h (caps j) v (allTo_spec hi j (by have := (List.getElem?_eq_some_iff.1 hv).1; omega)) (h3 j v hv)⟩
  | .ifc t c, u, hi, hc => by
    simp only [C.inn] at hi
    simp only [repC] at hc ⊢
    obtain ⟨v, h1, h2⟩ := hc
    exact ⟨v, h1, repC.ids h c v hi h2⟩
theorem repAV.ids {φ φ' : Id → Option Ref} {F w} {l : List Id} (h : ∀ id ∈ l, φ' id = φ id) : ∀ (c : AV) (u : Value), AV.inn l c = true → repAV φ F w c u → repAV φ' F w c u
  | .one x, u, hi, hc => by
    simp only [AV.inn] at hi
    simp only [repAV] at hc ⊢; exact repC.ids h x u hi hc
  | .agg k g, u, hi, hc => by
    simp only [AV.inn] at hi
    simp only [repAV] at hc ⊢
    obtain ⟨us, h1, h2, h3⟩ := hc
    exact ⟨us, h1, h2, fun j v hv => repC.ids h (g j) v (allTo_spec hi j (by have := (List.getElem?_eq_some_iff.1 hv).1; omega)) (h3 j v hv)⟩
  | .tup n g, u, hi, hc => by
    simp only [AV.inn] at hi
    simp only [repAV] at hc ⊢
    obtain ⟨us, h1, h2, h3⟩ := hc
    exact ⟨us, h1, h2, fun j v hv => repAV.ids h (g j) v (allTo_spec hi j (by have := (List.getElem?_eq_some_iff.1 hv).1; omega)) (h3 j v hv)⟩
theorem repAVs.ids {φ φ' : Id → Option Ref} {F w} {l : List Id} (h : ∀ id ∈ l, φ' id = φ id) : ∀ (cs : List AV) (us : List Value), AV.inns l cs = true → repAVs φ F w cs us → repAVs φ' F w cs us
  | [], us, _, hc => by simpa only [repAVs] using hc
  | c :: cs, us, hi, hc => by
    simp only [AV.inns, Bool.and_eq_true] at hi
    simp only [repAVs] at hc ⊢
    obtain ⟨v, vs, h1, h2, h3⟩ := hc
    exact ⟨v, vs, h1, repAV.ids h c v hi.1 h2, repAVs.ids h cs vs hi.2 h3⟩
theorem objRep.ids {φ φ' : Id → Option Ref} {F w r} {l : List Id} (h : ∀ id ∈ l, φ' id = φ id) {o : AObj} (hi : o.inn l) (ho : objRep φ F w r o) : objRep φ' F w r o := by
  cases o with
  | var k g =>
    obtain ⟨b, arr, e, h1, h2, h3, h4⟩ := ho
    exact ⟨b, arr, e, h1, h2, h3, fun j v hv => repC.ids h (g j) v (allTo_spec hi j (by have := (List.getElem?_eq_some_iff.1 hv).1; omega)) (h4 j v hv)⟩
  | row e k n g =>
    obtain ⟨h2, h3, h4, h5⟩ := ho
    refine ⟨h2, h3, h4, h5.imp id ?_⟩
    rintro ⟨b, cur, h6, h7, h8, h9⟩
    refine ⟨b, cur, h6, h7, h8, fun i j hi hj => ?_⟩
    obtain ⟨x, hx, hr⟩ := h9 i j hi hj
    exact ⟨x, hx, by simpa only [repC] using hr⟩
  | rowC e k n g =>
    obtain ⟨h2, h3, h4, h5⟩ := ho
    refine ⟨h2, h3, h4, h5.imp id ?_⟩
    rintro ⟨b, cur, h6, h7, h8, h9⟩
    refine ⟨b, cur, h6, h7, h8, fun i j hi' hj => ?_⟩
    obtain ⟨x, hx, hr⟩ := h9 i j hi' hj
    exact ⟨x, hx, repC.ids h _ _ (hi i j hi' hj) hr⟩
  | map ok kvs => exact ho

/-- A memory seen through fewer ids. -/
theorem SimM.ids {G φ φ' F m w} (h : SimM G φ F m w) {l : List Id} (hφ : ∀ id ∈ l, φ' id = φ id) (hm : ∀ id o, m id = some o → id ∈ l ∧ o.inn l) : SimM G φ' F m w := by
  have hk : ∀ id o r, m id = some o → φ' id = some r → φ id = some r := fun id o r h1 h2 => by rw [← hφ id (hm id o h1).1]; exact h2
  refine ⟨?_, ?_, ?_, h.frz, h.amb⟩
  · intro id o hid
    obtain ⟨r, hr, ho⟩ := h.obj id o hid
    exact ⟨r, by rw [hφ id (hm id o hid).1]; exact hr, ho.ids hφ (hm id o hid).2⟩
  · rintro b ⟨id, o, r, h1, h2, h3⟩
    exact h.live b ⟨id, o, r, h1, hk id o r h1 h2, h3⟩
  · intro id1 id2 o1 o2 r1 r2 b h1 h2 h3 h4
    exact h.inj id1 id2 o1 o2 r1 r2 b h1 h2 (hk _ _ _ h1 h3) (hk _ _ _ h2 h4)
theorem Since.idsR {φ0 F0 m0 w0 φ F m w} (h : Since φ0 F0 m0 w0 φ F m w) {φ' : Id → Option Ref} (hm : ∀ id o, m id = some o → φ' id = φ id) (hm0 : ∀ id o, m0 id = some o → φ' id = φ id) : Since φ0 F0 m0 w0 φ' F m w :=
  ⟨h.os, h.tape, h.output, h.size, h.keep, h.frz, h.frzNew, fun b ⟨id, o, r, h1, h2, h3⟩ => h.live b ⟨id, o, r, h1, by rw [← hm id o h1]; exact h2, h3⟩, fun id o hid => (hm0 id o hid).trans (h.ids id o hid)⟩
theorem Since.idsL {φ0 F0 m0 w0 φ F m w} (h : Since φ0 F0 m0 w0 φ F m w) {φ' : Id → Option Ref} (hm : ∀ id o, m0 id = some o → φ' id = φ0 id) : Since φ' F0 m0 w0 φ F m w := by
  have hl : ∀ b, liveBlk φ' m0 b ↔ liveBlk φ0 m0 b := by
    intro b
    constructor
    · rintro ⟨id, o, r, h1, h2, h3⟩; exact ⟨id, o, r, h1, by rw [← hm id o h1]; exact h2, h3⟩
    · rintro ⟨id, o, r, h1, h2, h3⟩; exact ⟨id, o, r, h1, by rw [hm id o h1]; exact h2, h3⟩
  exact ⟨h.os, h.tape, h.output, h.size, fun b hb hn => h.keep b hb (fun hh => hn ((hl b).2 hh)), h.frz, fun b hb => by rw [hl]; exact h.frzNew b hb, fun b hb => by rw [hl]; exact h.live b hb, fun id o hid => (h.ids id o hid).trans (hm id o hid).symm⟩

/-! ### Contracts -/
def ACalls (P : Program) (G : List (Addr × Value)) (f : FuncId) (args : List AV) (rd wi : MIn) (wo : MOut) (nw : MIn) (v : AV) : Prop :=
  ∀ w φ F (vs : List Value), SimM G φ F (ofIn (rd ++ wi)) w → (∀ id r, φ id = some r → id ∈ keys (rd ++ wi)) → repAVs φ F w args vs →
    Calls P f vs.toArray w fun e w' => ∃ u φ' F', e = .returned u ∧ SimM G φ' F' (ofOut (outs rd wo nw)) w' ∧ repAV φ' F' w' v u ∧
      Since φ F (ofIn (rd ++ wi)) w φ' F' (ofOut (outs rd wo nw)) w' ∧ ∀ id r, φ' id = some r → id ∈ keys (outs rd wo nw)

end Go.Bw
