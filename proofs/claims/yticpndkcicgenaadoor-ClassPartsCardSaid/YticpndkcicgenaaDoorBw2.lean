/- Abstract walk over contents given by functions, part 2: the abstract memory beside a world; the state of a walk; its rules for code. -/
import Derived.Test.YticpndkcicgenaaDoorBw1
import Derived.Deep.LoopGhost
set_option linter.unusedVariables false
set_option linter.unusedSimpArgs false
namespace Go.Bw
open Go.RowKit

def idEq (i j : Id) : Bool := match i, j with | (a, b), (c, d) => Nat.beq a c && Nat.beq b d
theorem idEq_eq (i j : Id) : idEq i j = (i == j) := by
  obtain ⟨a, b⟩ := i
  obtain ⟨c, d⟩ := j
  rw [Bool.eq_iff_iff]
  simp [idEq, Nat.beq_eq]
theorem idEq_iff {i j : Id} : idEq i j = true ↔ i = j := by rw [idEq_eq]; simp
def idHas (id : Id) : List Id → Bool
  | [] => false
  | i :: l => idEq id i || idHas id l
theorem idHas_eq (id : Id) : ∀ l : List Id, idHas id l = l.contains id
  | [] => rfl
  | i :: l => by simp only [idHas, List.contains_cons, idEq_eq, idHas_eq id l]
theorem idHas_iff {id : Id} {l : List Id} : idHas id l = true ↔ id ∈ l := by rw [idHas_eq, List.contains_iff_mem]
abbrev Mem := Id → Option AObj
abbrev MIn := List (Id × AObj)
abbrev MOut := List (Id × Option AObj)
def ofIn (l : MIn) : Mem := fun id => l.lookup id
def ofOut (l : MOut) : Mem := fun id => (l.lookup id).join
def keys {α : Type} (l : List (Id × α)) : List Id := l.map (·.1)
def putM (m : Mem) (l : MOut) : Mem := fun id => match l.lookup id with | some o => o | none => m id

theorem lookup_keys {α : Type} {id : Id} {l : List (Id × α)} : id ∈ keys l ↔ (l.lookup id).isSome = true := by
  induction l with
  | nil => simp [keys]
  | cons p l ih =>
    obtain ⟨i, x⟩ := p
    have hk : keys ((i, x) :: l) = i :: keys l := rfl
    rw [hk, List.mem_cons, List.lookup_cons]
    by_cases h : id = i
    · subst h; simp
    · have hb : (id == i) = false := by simpa using h
      simp [hb, h, ih]
theorem lookup_none_keys {α : Type} {id : Id} {l : List (Id × α)} : l.lookup id = none ↔ id ∉ keys l := by
  rw [lookup_keys]; cases l.lookup id <;> simp
theorem putM_out {m : Mem} {l : MOut} {id : Id} (h : id ∉ keys l) : putM m l id = m id := by simp [putM, lookup_none_keys.2 h]
theorem putM_in {m : Mem} {l : MOut} {id : Id} (h : id ∈ keys l) : putM m l id = ofOut l id := by
  rw [lookup_keys] at h
  unfold putM ofOut
  cases hl : l.lookup id with
  | none => simp [hl] at h
  | some o => simp

/-- What a map's entry may hold. -/
def okM : Value → Prop
  | .agg cs => ∀ v ∈ cs.toList, okV v
  | .tuple _ => False
  | v => okV v
/-- What a block of n elements of k cells holds, cell for cell. -/
def cellsAt (R : C → Value → Prop) (cur : Array Value) (k n : Nat) (g : Nat → Nat → C) : Prop := ∀ i j, i < n → j < k → ∃ x, cur[i * k + j]? = some x ∧ R (g i j) x
def objRep (φ : Id → Option Ref) (F : Nat → Prop) (w : World) (r : Ref) : AObj → Prop
  | .var k g => ∃ b arr e, r.b = some b ∧ w.heap[b]? = some (.cells arr e (0, 0)) ∧ repG φ F w k g arr.toList
  | .row e k n g => r.k = k ∧ n ≤ r.cap ∧ r.cap ≤ maxLen ∧
      ((r.b = none ∧ r.cap = 0) ∨ ∃ b cur, r.b = some b ∧ w.heap[b]? = some (.cells cur e (0, 0)) ∧ cur.size = r.cap * k ∧ cellsAt (repC φ F w) cur k n (fun i j => .d (g i j)))
  | .rowC e k n g => r.k = k ∧ n ≤ r.cap ∧ r.cap ≤ maxLen ∧
      ((r.b = none ∧ r.cap = 0) ∨ ∃ b cur, r.b = some b ∧ w.heap[b]? = some (.cells cur e (0, 0)) ∧ cur.size = r.cap * k ∧ cellsAt (repC φ F w) cur k n g)
  | .map ok kvs => ∃ b es, r.b = some b ∧ w.heap[b]? = some (.map es es.size) ∧ es.toList.map (fun e => (e.key, e.val)) = kvs ∧ (∀ (i : Nat) (e : MapEntry), es[i]? = some e → e.born = i) ∧ (kvs.map (·.1)).Nodup ∧ ∀ p ∈ kvs, ok p.1 ∧ okM p.2
theorem cellsAt.mono {R R' : C → Value → Prop} {cur k n} {g : Nat → Nat → C} (h : cellsAt R cur k n g) (hR : ∀ c x, R c x → R' c x) : cellsAt R' cur k n g := fun i j hi hj => by
  obtain ⟨x, h1, h2⟩ := h i j hi hj
  exact ⟨x, h1, hR _ _ h2⟩

def liveBlk (φ : Id → Option Ref) (m : Mem) (b : Nat) : Prop := ∃ id o r, m id = some o ∧ φ id = some r ∧ r.b = some b

structure SimM (G : List (Addr × Value)) (φ : Id → Option Ref) (F : Nat → Prop) (m : Mem) (w : World) : Prop where
  obj : ∀ id o, m id = some o → ∃ r, φ id = some r ∧ objRep φ F w r o
  live : ∀ b, liveBlk φ m b → ¬ F b ∧ b < w.heap.size
  inj : ∀ id1 id2 o1 o2 r1 r2 b, m id1 = some o1 → m id2 = some o2 → φ id1 = some r1 → φ id2 = some r2 → r1.b = some b → r2.b = some b → id1 = id2
  frz : ∀ b, F b → b < w.heap.size
  amb : ∀ p ∈ G, F p.1.block ∧ w.cell? p.1 = some p.2

/-- What has become of the world since (φ0, F0, m0, w0). -/
structure Since (φ0 : Id → Option Ref) (F0 : Nat → Prop) (m0 : Mem) (w0 : World) (φ : Id → Option Ref) (F : Nat → Prop) (m : Mem) (w : World) : Prop where
  os : w.os = w0.os
  tape : w.tape = w0.tape
  output : w.output = w0.output
  size : w0.heap.size ≤ w.heap.size
  keep : ∀ b, b < w0.heap.size → ¬ liveBlk φ0 m0 b → w.heap[b]? = w0.heap[b]?
  frz : ∀ b, F0 b → F b
  frzNew : ∀ b, F b → F0 b ∨ w0.heap.size ≤ b ∨ liveBlk φ0 m0 b
  live : ∀ b, liveBlk φ m b → w0.heap.size ≤ b ∨ liveBlk φ0 m0 b
  ids : ∀ id o, m0 id = some o → φ id = φ0 id

theorem Since.refl (φ F m w) : Since φ F m w φ F m w :=
  ⟨rfl, rfl, rfl, Nat.le_refl _, fun _ _ _ => rfl, fun _ h => h, fun _ h => .inl h, fun _ h => .inr h, fun _ _ _ => rfl⟩

/-- Two steps: what was there at first has its place still (no id of m0 was bound anew). -/
theorem Since.trans {φ0 F0 m0 w0 φ1 F1 m1 w1 φ2 F2 m2 w2} (h : Since φ0 F0 m0 w0 φ1 F1 m1 w1) (k : Since φ1 F1 m1 w1 φ2 F2 m2 w2) (hids : ∀ id o, m0 id = some o → φ2 id = φ1 id) : Since φ0 F0 m0 w0 φ2 F2 m2 w2 where
  os := k.os.trans h.os
  tape := k.tape.trans h.tape
  output := k.output.trans h.output
  size := Nat.le_trans h.size k.size
  keep b hb hl := by
    have hl1 : ¬ liveBlk φ1 m1 b := fun hl1 => by
      rcases h.live b hl1 with h1 | h1
      · omega
      · exact hl h1
    exact (k.keep b (Nat.lt_of_lt_of_le hb h.size) hl1).trans (h.keep b hb hl)
  frz b hb := k.frz b (h.frz b hb)
  frzNew b hb := by
    rcases k.frzNew b hb with h1 | h1 | h1
    · exact h.frzNew b h1
    · exact .inr (.inl (Nat.le_trans h.size h1))
    · exact .inr (h.live b h1)
  live b hb := by
    rcases k.live b hb with h1 | h1
    · exact .inl (Nat.le_trans h.size h1)
    · exact h.live b h1
  ids id o hid := (hids id o hid).trans (h.ids id o hid)

theorem Since.later {G φ0 F0 m0 w0 φ F m w} (h : Since φ0 F0 m0 w0 φ F m w) (hs : SimM G φ0 F0 m0 w0) (href : ∀ id r, φ0 id = some r → φ id = some r) : Later φ0 F0 w0 φ F w :=
  ⟨h.frz, fun b hb => h.keep b (hs.frz b hb) (fun hl => (hs.live b hl).1 hb), href⟩

theorem SimM.sub {G φ F m w} (h : SimM G φ F m w) {m' : Mem} (hin : ∀ id o, m' id = some o → m id = some o) : SimM G φ F m' w where
  obj id o hid := h.obj id o (hin id o hid)
  live b hb := h.live b (by obtain ⟨id, o, r, h1, h2⟩ := hb; exact ⟨id, o, r, hin id o h1, h2⟩)
  inj id1 id2 o1 o2 r1 r2 b h1 h2 := h.inj id1 id2 o1 o2 r1 r2 b (hin _ _ h1) (hin _ _ h2)
  frz := h.frz
  amb := h.amb

theorem objRep.later {φ F w φ' F' w'} (h : Later φ F w φ' F' w') {r : Ref} {o : AObj} (hb : ∀ b, r.b = some b → w'.heap[b]? = w.heap[b]?) (ho : objRep φ F w r o) : objRep φ' F' w' r o := by
  cases o with
  | var k g =>
    obtain ⟨b, arr, e, h1, h2, h3⟩ := ho
    exact ⟨b, arr, e, h1, (hb b h1).trans h2, h3.later h⟩
  | row e k n g =>
    obtain ⟨h2, h3, h4, h5⟩ := ho
    refine ⟨h2, h3, h4, h5.imp id ?_⟩
    rintro ⟨b, cur, h6, h7, h8, h9⟩
    exact ⟨b, cur, h6, (hb b h6).trans h7, h8, h9.mono fun c x => repC.later h c x⟩
  | rowC e k n g =>
    obtain ⟨h2, h3, h4, h5⟩ := ho
    refine ⟨h2, h3, h4, h5.imp id ?_⟩
    rintro ⟨b, cur, h6, h7, h8, h9⟩
    exact ⟨b, cur, h6, (hb b h6).trans h7, h8, h9.mono fun c x => repC.later h c x⟩
  | map ok kvs =>
    obtain ⟨b, es, h1, h2, h3⟩ := ho
    exact ⟨b, es, h1, (hb b h1).trans h2, h3⟩

/-- What an operation does to the part of memory that it is about, it does beside whatever else there is. -/
theorem SimM.frame {G φ F m w} (h : SimM G φ F m w) {mi : MIn} {mo : MOut} (hin : ∀ id o, ofIn mi id = some o → m id = some o)
    (hk : ∀ id, id ∈ keys mi → id ∈ keys mo) (hnew : ∀ id, id ∈ keys mo → id ∈ keys mi ∨ φ id = none)
    {φ' F' w'} (h' : SimM G φ' F' (ofOut mo) w') (hs : Since φ F (ofIn mi) w φ' F' (ofOut mo) w') (hφ : ∀ id, id ∉ keys mo → φ' id = φ id) :
    SimM G φ' F' (putM m mo) w' ∧ Later φ F w φ' F' w' ∧ Since φ F m w φ' F' (putM m mo) w' := by
  have href : ∀ id r, φ id = some r → φ' id = some r := by
    intro id r hr
    by_cases hid : id ∈ keys mo
    · rcases hnew id hid with h1 | h1
      · rw [lookup_keys] at h1
        cases hl : mi.lookup id with
        | none => simp [hl] at h1
        | some o => rw [hs.ids id o hl]; exact hr
      · rw [h1] at hr; cases hr
    · rw [hφ id hid]; exact hr
  have hlat := hs.later (h.sub hin) href
  -- a block of what lies beside
  have hrest : ∀ id o r b, id ∉ keys mo → m id = some o → φ id = some r → r.b = some b → ¬ liveBlk φ (ofIn mi) b ∧ b < w.heap.size := by
    intro id o r b hid hm hr hb
    refine ⟨?_, (h.live b ⟨id, o, r, hm, hr, hb⟩).2⟩
    rintro ⟨id2, o2, r2, h1, h2, h3⟩
    have : id = id2 := h.inj id id2 o o2 r r2 b hm (hin _ _ h1) hr h2 hb h3
    subst this
    exact hid (hk _ (by rw [lookup_keys]; unfold ofIn at h1; simp [h1]))
  have hobj : ∀ id o, putM m mo id = some o → ∃ r, φ' id = some r ∧ objRep φ' F' w' r o := by
    intro id o hid
    by_cases hi : id ∈ keys mo
    · rw [putM_in hi] at hid; exact h'.obj id o hid
    · rw [putM_out hi] at hid
      obtain ⟨r, hr, ho⟩ := h.obj id o hid
      refine ⟨r, href _ _ hr, objRep.later hlat (fun b hb => ?_) ho⟩
      obtain ⟨h1, h2⟩ := hrest id o r b hi hid hr hb
      exact hs.keep b h2 h1
  have hcase : ∀ id o r b, putM m mo id = some o → φ' id = some r → r.b = some b → (id ∈ keys mo ∧ liveBlk φ' (ofOut mo) b) ∨ (id ∉ keys mo ∧ m id = some o ∧ φ id = some r) := by
    intro id o r b h1 h2 h3
    by_cases hi : id ∈ keys mo
    · rw [putM_in hi] at h1; exact .inl ⟨hi, id, o, r, h1, h2, h3⟩
    · rw [putM_out hi] at h1
      refine .inr ⟨hi, h1, ?_⟩
      rw [hφ id hi] at h2
      exact h2
  have hsize : w.heap.size ≤ w'.heap.size := hs.size
  refine ⟨⟨hobj, ?_, ?_, h'.frz, h'.amb⟩, hlat, ?_⟩
  · rintro b ⟨id, o, r, h1, h2, h3⟩
    rcases hcase id o r b h1 h2 h3 with ⟨_, hl⟩ | ⟨hi, hm, hr⟩
    · exact h'.live b hl
    · obtain ⟨h4, h5⟩ := hrest id o r b hi hm hr h3
      refine ⟨fun hF => ?_, by omega⟩
      rcases hs.frzNew b hF with h6 | h6 | h6
      · exact (h.live b ⟨id, o, r, hm, hr, h3⟩).1 h6
      · omega
      · exact h4 h6
  · intro id1 id2 o1 o2 r1 r2 b h1 h2 h3 h4 h5 h6
    rcases hcase id1 o1 r1 b h1 h3 h5 with ⟨i1, hl1⟩ | ⟨i1, hm1, hr1⟩ <;> rcases hcase id2 o2 r2 b h2 h4 h6 with ⟨i2, hl2⟩ | ⟨i2, hm2, hr2⟩
    · rw [putM_in i1] at h1; rw [putM_in i2] at h2
      exact h'.inj id1 id2 o1 o2 r1 r2 b h1 h2 h3 h4 h5 h6
    · exfalso
      obtain ⟨h7, h8⟩ := hrest id2 o2 r2 b i2 hm2 hr2 h6
      rcases hs.live b hl1 with h9 | h9
      · omega
      · exact h7 h9
    · exfalso
      obtain ⟨h7, h8⟩ := hrest id1 o1 r1 b i1 hm1 hr1 h5
      rcases hs.live b hl2 with h9 | h9
      · omega
      · exact h7 h9
    · exact h.inj id1 id2 o1 o2 r1 r2 b hm1 hm2 hr1 hr2 h5 h6
  · refine ⟨hs.os, hs.tape, hs.output, hs.size, ?_, hs.frz, ?_, ?_, ?_⟩
    · intro b hb hl
      refine hs.keep b hb fun hl2 => hl ?_
      obtain ⟨id, o, r, h1, h2⟩ := hl2
      exact ⟨id, o, r, hin _ _ h1, h2⟩
    · intro b hb
      rcases hs.frzNew b hb with h1 | h1 | h1
      · exact .inl h1
      · exact .inr (.inl h1)
      · obtain ⟨id, o, r, h2, h3⟩ := h1
        exact .inr (.inr ⟨id, o, r, hin _ _ h2, h3⟩)
    · rintro b ⟨id, o, r, h1, h2, h3⟩
      rcases hcase id o r b h1 h2 h3 with ⟨_, hl⟩ | ⟨hi, hm, hr⟩
      · rcases hs.live b hl with h4 | h4
        · exact .inl h4
        · obtain ⟨id2, o2, r2, h5, h6⟩ := h4
          exact .inr ⟨id2, o2, r2, hin _ _ h5, h6⟩
      · exact .inr ⟨id, o, r, hm, hr, h3⟩
    · intro id o hid
      obtain ⟨r, hr, _⟩ := h.obj id o hid
      rw [href id r hr, hr]

/-! ### The state of a walk -/
structure Env where
  P : Program
  G : List (Addr × Value)
  N : Nat
  φ0 : Id → Option Ref
  F0 : Nat → Prop
  mi : MIn
  w0 : World
abbrev Env.m0 (E : Env) : Mem := ofIn E.mi

structure St where
  fr : List (Nat × AV)
  m : MOut
  ids : List Id

abbrev St.mem (S : St) : Mem := ofOut S.m

structure Sim (E : Env) (S : St) (a : Act) (w : World) (φ : Id → Option Ref) (F : Nat → Prop) : Prop where
  defers : a.defers = []
  size : a.tmps.size = E.N
  slots : ∀ t v, S.fr.lookup t = some v → t < E.N ∧ repAV φ F w v (a.tmps.getD t undef)
  mem : SimM E.G φ F S.mem w
  dom : ∀ id r, φ id = some r → id ∈ S.ids
  root : ∀ id o, E.m0 id = some o → ∃ r, φ id = some r
  since : Since E.φ0 E.F0 E.m0 E.w0 φ F S.mem w

def conc (E : Env) (Q : Exit → St → Prop) : Exit → Act → World → Prop := fun ex a w => ∃ S φ F, Q ex S ∧ Sim E S a w φ F

def AWP (E : Env) (c : Code) (Q : Exit → St → Prop) (S : St) : Prop := ∀ a w φ F, Sim E S a w φ F → c.wp E.P (conc E Q) a w

def Ent (E : Env) (S S' : St) : Prop := ∀ a w φ F, Sim E S a w φ F → ∃ φ' F', Sim E S' a w φ' F'

theorem Ent.refl (E S) : Ent E S S := fun a w φ F h => ⟨φ, F, h⟩
theorem Ent.trans {E S1 S2 S3} (h : Ent E S1 S2) (k : Ent E S2 S3) : Ent E S1 S3 := fun a w φ F hs => by
  obtain ⟨φ', F', h'⟩ := h a w φ F hs
  exact k a w φ' F' h'

theorem awp_ent {E c Q S S'} (h : Ent E S S') (k : AWP E c Q S') : AWP E c Q S := fun a w φ F hs => by
  obtain ⟨φ', F', h'⟩ := h a w φ F hs
  exact k a w φ' F' h'

theorem awp_mono {E c S} {Q Q' : Exit → St → Prop} (h : AWP E c Q S) (hq : ∀ e S, Q e S → Q' e S) : AWP E c Q' S := fun a w φ F hs =>
  Go.wp_mono (h a w φ F hs) fun e a w ⟨S, φ, F, h1, h2⟩ => ⟨S, φ, F, hq _ _ h1, h2⟩

def thenA (next : St → Prop) (Q : Exit → St → Prop) : Exit → St → Prop
  | .normal, S => next S
  | e, S => Q e S
def blkA (id : Nat) (Q : Exit → St → Prop) : Exit → St → Prop
  | .exit id', S => if id' = id then Q .normal S else Q (.exit id') S
  | e, S => Q e S

theorem awp_skip {E S} {Q : Exit → St → Prop} (h : Q .normal S) : AWP E .skip Q S := fun a w φ F hs => wp_skip ⟨S, φ, F, h, hs⟩
theorem awp_ret {E S} {Q : Exit → St → Prop} (h : Q .ret S) : AWP E .ret Q S := fun a w φ F hs => wp_ret ⟨S, φ, F, h, hs⟩
theorem awp_exit {E S id} {Q : Exit → St → Prop} (h : Q (.exit id) S) : AWP E (.exit id) Q S := fun a w φ F hs => wp_exit ⟨S, φ, F, h, hs⟩
theorem awp_label {E S l} {Q : Exit → St → Prop} (h : Q .normal S) : AWP E (.label l) Q S := fun a w φ F hs => wp_label ⟨S, φ, F, h, hs⟩
theorem awp_seq {E S x y} {Q : Exit → St → Prop} (h : AWP E x (thenA (AWP E y Q) Q) S) : AWP E (.seq x y) Q S := fun a w φ F hs => by
  refine wp_seq (Go.wp_mono (h a w φ F hs) ?_)
  rintro e a w ⟨S, φ, F, h1, h2⟩
  cases e with
  | normal => exact h1 a w φ F h2
  | _ => exact ⟨S, φ, F, h1, h2⟩
theorem awp_block {E S id c} {Q : Exit → St → Prop} (h : AWP E c (blkA id Q) S) : AWP E (.block id c) Q S := fun a w φ F hs => by
  refine wp_block (Go.wp_mono (h a w φ F hs) ?_)
  rintro e a w ⟨S, φ, F, h1, h2⟩
  cases e with
  | exit id' =>
    simp only [blkA] at h1
    simp only [Exit.inBlock]
    split
    · rename_i hid; rw [if_pos hid] at h1; exact ⟨S, φ, F, h1, h2⟩
    · rename_i hid; rw [if_neg hid] at h1; exact ⟨S, φ, F, h1, h2⟩
  | _ => exact ⟨S, φ, F, h1, h2⟩

/-- What an operand is, in the abstract frame. -/
def okVB : Value → Bool
  | .int k (.ofNat n) => Nat.ble n (ihi k).toNat
  | .int k (.negSucc n) => Nat.ble (n + 1) (-ilo k).toNat
  | v => v.oneCell'
theorem okVB_ok {v : Value} (h : okVB v = true) : okV v := by
  cases v with
  | int k a =>
    cases a with
    | ofNat n =>
      have h1 := Nat.le_of_ble_eq_true h
      show ilo k ≤ (n : Int) ∧ (n : Int) ≤ ihi k
      cases k <;> simp [ilo, ihi] at h1 ⊢ <;> omega
    | negSucc n =>
      have h1 := Nat.le_of_ble_eq_true h
      show ilo k ≤ Int.negSucc n ∧ Int.negSucc n ≤ ihi k
      cases k <;> simp [ilo, ihi] at h1 ⊢ <;> omega
  | _ => exact h
def aev (fr : List (Nat × AV)) : Operand → Option AV
  | .tmp t => fr.lookup t
  | .const v => if okVB v then some (.one (.d (.raw v))) else none
  | .global g => some (.one (.d (.raw (.pointer (some ⟨g, 0, none⟩)))))
  | .func f => some (.one (.d (.raw (.func (.func f) #[] #[]))))

theorem Sim.ev {E S a w φ F} (h : Sim E S a w φ F) {x : Operand} {v : AV} (hx : aev S.fr x = some v) : repAV φ F w v (a.eval x) := by
  cases x with
  | tmp t => exact (h.slots t v hx).2
  | const u =>
    simp only [aev] at hx
    split at hx
    · rename_i h1; cases hx; simp only [repAV, repC, repD, Act.eval]; exact ⟨trivial, okVB_ok h1⟩
    · cases hx
  | global g => simp only [aev, Option.some.injEq] at hx; subst hx; simp only [repAV, repC, repD, Act.eval]; exact ⟨trivial, rfl⟩
  | func f => simp only [aev, Option.some.injEq] at hx; subst hx; simp only [repAV, repC, repD, Act.eval]; exact ⟨trivial, rfl⟩

theorem awp_cond {E S c x y} {Q : Exit → St → Prop} {b : Bool} (hc : aev S.fr c = some (.one (.d (.raw (.bool b))))) (ht : b = true → AWP E x Q S) (hf : b = false → AWP E y Q S) : AWP E (.cond c x y) Q S := fun a w φ F hs => by
  have h := hs.ev hc
  simp only [repAV, repC, repD] at h
  exact wp_cond_split h.1 (fun e => ht e a w φ F hs) (fun e => hf e a w φ F hs)

/-- A loop, by a state for each x; each round goes on to a smaller one. -/
theorem awp_loop {E S c} {Q : Exit → St → Prop} {α : Type} (T : α → St) (μ : α → Nat) (x0 : α) (h0 : Ent E S (T x0))
    (h : ∀ x, AWP E c (thenA (fun S' => ∃ y, μ y < μ x ∧ Ent E S' (T y)) Q) (T x)) : AWP E (.loop c) Q S := fun a w φ F hs => by
  obtain ⟨φ', F', h'⟩ := h0 a w φ F hs
  refine wp_loop_ghost (fun n a w => ∃ x φ F, μ x = n ∧ Sim E (T x) a w φ F) (μ x0) ⟨x0, φ', F', rfl, h'⟩ ?_
  rintro n a w ⟨x, φ, F, rfl, hx⟩
  refine Go.wp_mono (h x a w φ F hx) ?_
  rintro e a w ⟨S, φ, F, h1, h2⟩
  cases e with
  | normal =>
    obtain ⟨y, hlt, hy⟩ := h1
    obtain ⟨φ', F', h'⟩ := hy a w φ F h2
    exact ⟨μ y, hlt, y, φ', F', rfl, h'⟩
  | _ => exact ⟨S, φ, F, h1, h2⟩

/-- A loop, its rounds laid out. -/
def ARounds (E : Env) (c : Code) (Q : Exit → St → Prop) : Nat → St → Prop
  | 0, _ => False
  | n + 1, S => AWP E c (thenA (ARounds E c Q n) Q) S

theorem awp_rounds {E S c} {Q : Exit → St → Prop} (n : Nat) (h : ARounds E c Q n S) : AWP E (.loop c) Q S := fun a w φ F hs => by
  refine wp_loop_rounds n ?_
  induction n generalizing S a w φ F with
  | zero => exact h.elim
  | succ n ih =>
    rw [rounds_succ]
    refine Go.wp_mono (h a w φ F hs) ?_
    rintro e a w ⟨S, φ, F, h1, h2⟩
    cases e with
    | normal => exact ih h1 a w φ F h2
    | _ => exact ⟨S, φ, F, h1, h2⟩

end Go.Bw
