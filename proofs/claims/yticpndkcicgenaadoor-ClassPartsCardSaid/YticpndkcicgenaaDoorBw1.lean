/- Abstract walk over contents given by functions, part 1: abstract values, abstract memory, what they say of a world, and that they live on. -/
import Derived.WalkKit
import Derived.KernelRfl
import Derived.RowKit3
set_option linter.unusedVariables false
set_option linter.unusedSimpArgs false
namespace Go.Bw
open Go.RowKit

abbrev Id := Nat × Nat

/-- Closed data: what names no memory of the call's own. -/
inductive D where
  | raw (v : Value)
  | lst (k n : Nat) (g : Nat → Nat → D)
  | fptr (k : Nat) (g : Nat → D)

/-- What a cell holds. -/
inductive C where
  | d (x : D)
  | sl (id : Id) (lo n : Nat)
  | ptr (id : Id) (off : Nat)
  | ptrR (id : Id) (i j : Nat)
  | mp (id : Id)
  | clo (f : FuncId) (n : Nat) (caps : Nat → C)
  | ifc (t : TypeId) (c : C)

/-- What a slot holds. -/
inductive AV where
  | one (c : C)
  | agg (k : Nat) (g : Nat → C)
  | tup (n : Nat) (g : Nat → AV)

/-- Where an object lies. -/
structure Ref where
  b : Option Nat
  k : Nat
  cap : Nat
  /-- without a block there is no room -/
  ok : b = none → cap = 0 := by simp

/-- An object of the call's own. -/
inductive AObj where
  | var (k : Nat) (g : Nat → C)
  | row (e k n : Nat) (g : Nat → Nat → D)
  | rowC (e k n : Nat) (g : Nat → Nat → C)
  | map (ok : Value → Prop) (kvs : List (Value × Value))

/-- The least and the greatest number of a kind. -/
def ilo : IntKind → Int
  | .i8 => -128 | .i16 => -32768 | .i32 => -2147483648 | .i64 => -9223372036854775808 | _ => 0
def ihi : IntKind → Int
  | .i8 => 127 | .i16 => 32767 | .i32 => 2147483647 | .i64 => 9223372036854775807 | .u8 => 255 | .u16 => 65535 | .u32 => 4294967295 | .u64 => 18446744073709551615
/-- What one cell may hold: a whole number lies within its kind. -/
def okV : Value → Prop
  | .int k a => ilo k ≤ a ∧ a ≤ ihi k
  | v => v.oneCell' = true
theorem okV.one {v : Value} (h : okV v) : v.oneCell' = true := by cases v <;> first | rfl | exact h

def repD (F : Nat → Prop) (w : World) : D → Value → Prop
  | .raw v, u => u = v ∧ okV v
  | .lst k n g, u => ∃ a cap, u = .slice a n cap ∧ n ≤ cap ∧ cap ≤ maxLen ∧ (n = 0 ∨ ∃ b off, a = some ⟨b, off, none⟩ ∧ F b ∧ ∀ i j, i < n → j < k → ∃ x, w.cell? ⟨b, off + (i * k + j), none⟩ = some x ∧ repD F w (g i j) x)
  | .fptr k g, u => ∃ b off, u = .pointer (some ⟨b, off, none⟩) ∧ F b ∧ ∀ j, j < k → ∃ x, w.cell? ⟨b, off + j, none⟩ = some x ∧ repD F w (g j) x

def repC (φ : Id → Option Ref) (F : Nat → Prop) (w : World) : C → Value → Prop
  | .d x, u => repD F w x u
  | .sl id lo n, u => ∃ r, φ id = some r ∧ u = .slice (r.b.map fun b => ⟨b, lo * r.k, none⟩) n (r.cap - lo) ∧ lo + n ≤ r.cap
  | .ptr id off, u => ∃ r b, φ id = some r ∧ r.b = some b ∧ u = .pointer (some ⟨b, off, none⟩)
  | .ptrR id i j, u => ∃ r b, φ id = some r ∧ r.b = some b ∧ u = .pointer (some ⟨b, i * r.k + j, none⟩)
  | .mp id, u => ∃ r b, φ id = some r ∧ r.b = some b ∧ u = .map (some b)
  | .clo f n caps, u => ∃ vs : List Value, u = .func (.func f) #[] vs.toArray ∧ vs.length = n ∧ ∀ j v, vs[j]? = some v → repC φ F w (caps j) v
  | .ifc t c, u => ∃ v, u = .iface t v ∧ repC φ F w c v

def repAV (φ : Id → Option Ref) (F : Nat → Prop) (w : World) : AV → Value → Prop
  | .one c, u => repC φ F w c u
  | .agg k g, u => ∃ us : List Value, u = .agg us.toArray ∧ us.length = k ∧ ∀ j v, us[j]? = some v → repC φ F w (g j) v
  | .tup n g, u => ∃ us : List Value, u = .tuple us.toArray ∧ us.length = n ∧ ∀ j v, us[j]? = some v → repAV φ F w (g j) v

def repAVs (φ : Id → Option Ref) (F : Nat → Prop) (w : World) : List AV → List Value → Prop
  | [], us => us = []
  | c :: cs, us => ∃ v vs, us = v :: vs ∧ repAV φ F w c v ∧ repAVs φ F w cs vs

/-- The later world keeps the frozen blocks; the places of the objects known so far are kept. -/
structure Later (φ : Id → Option Ref) (F : Nat → Prop) (w : World) (φ' : Id → Option Ref) (F' : Nat → Prop) (w' : World) : Prop where
  frz : ∀ b, F b → F' b
  blk : ∀ b, F b → w'.heap[b]? = w.heap[b]?
  ref : ∀ id r, φ id = some r → φ' id = some r

theorem Later.refl (φ F w) : Later φ F w φ F w := ⟨fun _ h => h, fun _ _ => rfl, fun _ _ h => h⟩
theorem Later.trans {φ F w φ1 F1 w1 φ2 F2 w2} (h : Later φ F w φ1 F1 w1) (k : Later φ1 F1 w1 φ2 F2 w2) : Later φ F w φ2 F2 w2 :=
  ⟨fun b hb => k.frz b (h.frz b hb), fun b hb => (k.blk b (h.frz b hb)).trans (h.blk b hb), fun id r hr => k.ref id r (h.ref id r hr)⟩

theorem repD.later {F F' : Nat → Prop} {w w' : World} (hF : ∀ b, F b → F' b) (hw : ∀ b, F b → w'.heap[b]? = w.heap[b]?) :
    ∀ (d : D) (u : Value), repD F w d u → repD F' w' d u
  | .raw v, u, h => by simpa only [repD] using h
  | .lst k n g, u, h => by
    simp only [repD] at h ⊢
    obtain ⟨a, cap, h2, h3, h4, h5⟩ := h
    refine ⟨a, cap, h2, h3, h4, h5.imp id ?_⟩
    rintro ⟨b, off, h6, h7, h8⟩
    refine ⟨b, off, h6, hF b h7, fun i j hi hj => ?_⟩
    obtain ⟨x, h9, h10⟩ := h8 i j hi hj
    exact ⟨x, (World.cell?_of_block (w := w) (hw b h7)).trans h9, repD.later hF hw (g i j) x h10⟩
  | .fptr k g, u, h => by
    simp only [repD] at h ⊢
    obtain ⟨b, off, h6, h7, h8⟩ := h
    refine ⟨b, off, h6, hF b h7, fun j hj => ?_⟩
    obtain ⟨x, h9, h10⟩ := h8 j hj
    exact ⟨x, (World.cell?_of_block (w := w) (hw b h7)).trans h9, repD.later hF hw (g j) x h10⟩

theorem repC.later {φ F w φ' F' w'} (h : Later φ F w φ' F' w') : ∀ (c : C) (u : Value), repC φ F w c u → repC φ' F' w' c u
  | .d x, u, hc => by
    simp only [repC] at hc ⊢
    exact repD.later h.frz h.blk x u hc
  | .sl id lo n, u, hc => by
    simp only [repC] at hc ⊢
    obtain ⟨r, h1, h2⟩ := hc
    exact ⟨r, h.ref _ _ h1, h2⟩
  | .ptr id off, u, hc => by
    simp only [repC] at hc ⊢
    obtain ⟨r, b, h1, h2⟩ := hc
    exact ⟨r, b, h.ref _ _ h1, h2⟩
  | .ptrR id i j, u, hc => by
    simp only [repC] at hc ⊢
    obtain ⟨r, b, h1, h2⟩ := hc
    exact ⟨r, b, h.ref _ _ h1, h2⟩
  | .mp id, u, hc => by
    simp only [repC] at hc ⊢
    obtain ⟨r, b, h1, h2⟩ := hc
    exact ⟨r, b, h.ref _ _ h1, h2⟩
  | .clo f n caps, u, hc => by
    simp only [repC] at hc ⊢
    obtain ⟨vs, h1, h2, h3⟩ := hc
    exact ⟨vs, h1, h2, fun j v hv => repC.later h (caps j) v (h3 j v hv)⟩
  | .ifc t c, u, hc => by
    simp only [repC] at hc ⊢
    obtain ⟨v, h1, h2⟩ := hc
    exact ⟨v, h1, repC.later h c v h2⟩

theorem repAV.later {φ F w φ' F' w'} (h : Later φ F w φ' F' w') : ∀ (v : AV) (u : Value), repAV φ F w v u → repAV φ' F' w' v u
  | .one c, u, hc => by
    simp only [repAV] at hc ⊢
    exact repC.later h c u hc
  | .agg k g, u, hc => by
    simp only [repAV] at hc ⊢
    obtain ⟨us, h1, h2, h3⟩ := hc
    exact ⟨us, h1, h2, fun j v hv => repC.later h (g j) v (h3 j v hv)⟩
  | .tup n g, u, hc => by
    simp only [repAV] at hc ⊢
    obtain ⟨us, h1, h2, h3⟩ := hc
    exact ⟨us, h1, h2, fun j v hv => repAV.later h (g j) v (h3 j v hv)⟩
theorem repAVs.later {φ F w φ' F' w'} (h : Later φ F w φ' F' w') : ∀ (vs : List AV) (us : List Value), repAVs φ F w vs us → repAVs φ' F' w' vs us
  | [], us, hc => by simpa only [repAVs] using hc
  | c :: cs, us, hc => by
    simp only [repAVs] at hc ⊢
    obtain ⟨v, vs, h1, h2, h3⟩ := hc
    exact ⟨v, vs, h1, repAV.later h c v h2, repAVs.later h cs vs h3⟩

theorem repD.one {F w} {d : D} {u : Value} (h : repD F w d u) : u.oneCell' = true := by
  cases d with
  | raw v => simp only [repD] at h; rw [h.1]; exact h.2.one
  | lst k n ds => simp only [repD] at h; obtain ⟨a, cap, rfl, _⟩ := h; rfl
  | fptr ds => simp only [repD] at h; obtain ⟨_, _, rfl, _⟩ := h; rfl
theorem repC.one {φ F w} : ∀ (c : C) (u : Value), repC φ F w c u → u.oneCell' = true
  | .d x, u, h => by simp only [repC] at h; exact h.one
  | .sl id lo n, u, h => by simp only [repC] at h; obtain ⟨r, _, rfl, _⟩ := h; rfl
  | .ptr id off, u, h => by simp only [repC] at h; obtain ⟨r, b, _, _, rfl⟩ := h; rfl
  | .ptrR id i j, u, h => by simp only [repC] at h; obtain ⟨r, b, _, _, rfl⟩ := h; rfl
  | .mp id, u, h => by simp only [repC] at h; obtain ⟨r, b, _, _, rfl⟩ := h; rfl
  | .clo f n caps, u, h => by simp only [repC] at h; obtain ⟨vs, rfl, _⟩ := h; rfl
  | .ifc t c, u, h => by simp only [repC] at h; obtain ⟨v, rfl, _⟩ := h; rfl

theorem repAVs.length {φ F w} : ∀ {cs : List AV} {us : List Value}, repAVs φ F w cs us → us.length = cs.length
  | [], us, h => by simp only [repAVs] at h; simp [h]
  | c :: cs, us, h => by
    simp only [repAVs] at h
    obtain ⟨v, vs, rfl, _, h3⟩ := h
    simp [repAVs.length h3]

/-- A row of values, cell for cell. -/
def repG (φ : Id → Option Ref) (F : Nat → Prop) (w : World) (k : Nat) (g : Nat → C) (us : List Value) : Prop := us.length = k ∧ ∀ j v, us[j]? = some v → repC φ F w (g j) v
theorem repG.later {φ F w φ' F' w' k g us} (h : Later φ F w φ' F' w') (hg : repG φ F w k g us) : repG φ' F' w' k g us := ⟨hg.1, fun j v hv => repC.later h _ _ (hg.2 j v hv)⟩
theorem repG.get {φ F w k g us} (h : repG φ F w k g us) {j : Nat} (hj : j < k) : ∃ v, us[j]? = some v ∧ repC φ F w (g j) v := by
  have : j < us.length := by rw [h.1]; exact hj
  exact ⟨us[j], List.getElem?_eq_getElem this, h.2 j _ (List.getElem?_eq_getElem this)⟩
end Go.Bw
