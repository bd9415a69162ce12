/- Abstract walk over contents given by functions, part 5: names changed; from one state to another that says less, or says it otherwise. -/
import Derived.Test.YticpndkcicgenaaDoorBw4
set_option linter.unusedVariables false
set_option linter.unusedSimpArgs false
namespace Go.Bw
open Go.RowKit

/-! ### other names -/
def C.ren (ρ : Id → Id) : C → C
  | .d x => .d x
  | .sl id lo n => .sl (ρ id) lo n
  | .ptr id off => .ptr (ρ id) off
  | .ptrR id i j => .ptrR (ρ id) i j
  | .mp id => .mp (ρ id)
  | .clo f n caps => .clo f n fun j => (caps j).ren ρ
  | .ifc t c => .ifc t (c.ren ρ)
def AV.ren (ρ : Id → Id) : AV → AV
  | .one c => .one (c.ren ρ)
  | .agg k g => .agg k fun j => (g j).ren ρ
  | .tup n g => .tup n fun j => (g j).ren ρ
def AObj.ren (ρ : Id → Id) : AObj → AObj
  | .var k g => .var k fun j => (g j).ren ρ
  | .row e k n g => .row e k n g
  | .rowC e k n g => .rowC e k n fun i j => (g i j).ren ρ
  | .map ok kvs => .map ok kvs
theorem repC_ren {φ : Id → Option Ref} {F w} {ρ : Id → Id} : ∀ {c : C} {u : Value}, repC φ F w (c.ren ρ) u ↔ repC (fun id => φ (ρ id)) F w c u
  | .d x, u => Iff.rfl
  | .sl id lo n, u => Iff.rfl
  | .ptr id off, u => Iff.rfl
  | .ptrR id i j, u => Iff.rfl
  | .mp id, u => Iff.rfl
  | .clo f n caps, u => by
    simp only [C.ren, repC]
    constructor
    · rintro ⟨vs, h1, h2, h3⟩; exact ⟨vs, h1, h2, fun j v hv => repC_ren.1 (h3 j v hv)⟩
    · rintro ⟨vs, h1, h2, h3⟩; exact ⟨vs, h1, h2, fun j v hv => repC_ren.2 (h3 j v hv)⟩
  | .ifc t c, u => by
    simp only [C.ren, repC]
    constructor
    · rintro ⟨v, h1, h2⟩; exact ⟨v, h1, repC_ren.1 h2⟩
    · rintro ⟨v, h1, h2⟩; exact ⟨v, h1, repC_ren.2 h2⟩
theorem repAV_ren {φ : Id → Option Ref} {F w} {ρ : Id → Id} : ∀ {c : AV} {u : Value}, repAV φ F w (c.ren ρ) u ↔ repAV (fun id => φ (ρ id)) F w c u
  | .one c, u => repC_ren
  | .agg k g, u => by
    simp only [AV.ren, repAV]
    constructor
    · rintro ⟨vs, h1, h2, h3⟩; exact ⟨vs, h1, h2, fun j v hv => repC_ren.1 (h3 j v hv)⟩
    · rintro ⟨vs, h1, h2, h3⟩; exact ⟨vs, h1, h2, fun j v hv => repC_ren.2 (h3 j v hv)⟩
  | .tup k g, u => by
    simp only [AV.ren, repAV]
    constructor
    · rintro ⟨vs, h1, h2, h3⟩; exact ⟨vs, h1, h2, fun j v hv => repAV_ren.1 (h3 j v hv)⟩
    · rintro ⟨vs, h1, h2, h3⟩; exact ⟨vs, h1, h2, fun j v hv => repAV_ren.2 (h3 j v hv)⟩
theorem repAVs_ren {φ : Id → Option Ref} {F w} {ρ : Id → Id} : ∀ {cs : List AV} {us : List Value}, repAVs φ F w (cs.map (AV.ren ρ)) us ↔ repAVs (fun id => φ (ρ id)) F w cs us
  | [], us => Iff.rfl
  | c :: cs, us => by
    simp only [List.map_cons, repAVs]
    constructor
    · rintro ⟨v, vs, h1, h2, h3⟩; exact ⟨v, vs, h1, repAV_ren.1 h2, repAVs_ren.1 h3⟩
    · rintro ⟨v, vs, h1, h2, h3⟩; exact ⟨v, vs, h1, repAV_ren.2 h2, repAVs_ren.2 h3⟩
theorem objRep_ren {φ : Id → Option Ref} {F w r} {ρ : Id → Id} {o : AObj} : objRep φ F w r (o.ren ρ) ↔ objRep (fun id => φ (ρ id)) F w r o := by
  cases o with
  | var k g =>
    constructor
    · rintro ⟨b, arr, e, h1, h2, h3, h4⟩; exact ⟨b, arr, e, h1, h2, h3, fun j v hv => repC_ren.1 (h4 j v hv)⟩
    · rintro ⟨b, arr, e, h1, h2, h3, h4⟩; exact ⟨b, arr, e, h1, h2, h3, fun j v hv => repC_ren.2 (h4 j v hv)⟩
  | row => exact Iff.rfl
  | rowC e k n g =>
    constructor
    · rintro ⟨h1, h2, h3, h4⟩
      exact ⟨h1, h2, h3, h4.imp id fun ⟨b, cur, h6, h7, h8, h9⟩ => ⟨b, cur, h6, h7, h8, fun i j hi hj => (h9 i j hi hj).imp fun x hx => ⟨hx.1, repC_ren.1 hx.2⟩⟩⟩
    · rintro ⟨h1, h2, h3, h4⟩
      exact ⟨h1, h2, h3, h4.imp id fun ⟨b, cur, h6, h7, h8, h9⟩ => ⟨b, cur, h6, h7, h8, fun i j hi hj => (h9 i j hi hj).imp fun x hx => ⟨hx.1, repC_ren.2 hx.2⟩⟩⟩
  | map => exact Iff.rfl

/-! ### what is said otherwise -/
abbrev Ren := List (Id × Id)
/-- The old name of an id. -/
def rho (R : Ren) (id : Id) : Id := (R.lookup id).getD id
inductive CoX (Z N : MIn) (R : Ren) : C → C → Prop where
  | d {x y : D} : CoD x y → CoX Z N R (.d x) (.d y)
  | nil {id : Id} {e k : Nat} {g : Nat → Nat → D} : N.lookup id = some (.row e k 0 g) → CoX Z N R (.d (.raw (.slice none 0 0))) (.sl id 0 0)
  | cut {id : Id} {lo n e k nn : Nat} {g g' : Nat → Nat → D} : Z.lookup id = some (.row e k nn g) → lo + n ≤ nn → (∀ i j, i < n → j < k → CoD (g (lo + i) j) (g' i j)) → CoX Z N R (.sl id lo n) (.d (.lst k n g'))
  | sl {id id' : Id} {lo n : Nat} : N.lookup id' = none → rho R id' = id → CoX Z N R (.sl id lo n) (.sl id' lo n)
  | ptr {id id' : Id} {off : Nat} : N.lookup id' = none → rho R id' = id → CoX Z N R (.ptr id off) (.ptr id' off)
  | ptrR {id id' : Id} {i j : Nat} : N.lookup id' = none → rho R id' = id → CoX Z N R (.ptrR id i j) (.ptrR id' i j)
  | mp {id id' : Id} : N.lookup id' = none → rho R id' = id → CoX Z N R (.mp id) (.mp id')
  | clo {f n caps caps'} : (∀ j, j < n → CoX Z N R (caps j) (caps' j)) → CoX Z N R (.clo f n caps) (.clo f n caps')
  | ifc {t c c'} : CoX Z N R c c' → CoX Z N R (.ifc t c) (.ifc t c')
inductive CoXV (Z N : MIn) (R : Ren) : AV → AV → Prop where
  | one {c c'} : CoX Z N R c c' → CoXV Z N R (.one c) (.one c')
  | agg {k g g'} : (∀ j, j < k → CoX Z N R (g j) (g' j)) → CoXV Z N R (.agg k g) (.agg k g')
  | tup {n g g'} : (∀ j, j < n → CoXV Z N R (g j) (g' j)) → CoXV Z N R (.tup n g) (.tup n g')
inductive CoXVs (Z N : MIn) (R : Ren) : List AV → List AV → Prop where
  | nil : CoXVs Z N R [] []
  | cons {c c' cs cs'} : CoXV Z N R c c' → CoXVs Z N R cs cs' → CoXVs Z N R (c :: cs) (c' :: cs')
inductive FrX (Z N : MIn) (R : Ren) (fr : List (Nat × AV)) : List (Nat × AV) → Prop where
  | nil : FrX Z N R fr []
  | cons {t v v' l} : fr.lookup t = some v → CoXV Z N R v v' → FrX Z N R fr l → FrX Z N R fr ((t, v') :: l)
inductive ObX (Z N : MIn) (R : Ren) : AObj → AObj → Prop where
  | row {e k n n' g g'} : n' ≤ n → (∀ i j, i < n' → j < k → CoD (g i j) (g' i j)) → ObX Z N R (.row e k n g) (.row e k n' g')
  | rowC {e k n n' g g'} : n' ≤ n → (∀ i j, i < n' → j < k → CoX Z N R (g i j) (g' i j)) → ObX Z N R (.rowC e k n g) (.rowC e k n' g')
  | rowDC {e k n n' g g'} : n' ≤ n → (∀ i j, i < n' → j < k → CoX Z N R (.d (g i j)) (g' i j)) → ObX Z N R (.row e k n g) (.rowC e k n' g')
  | map {ok kvs kvs'} : kvs = kvs' → ObX Z N R (.map ok kvs) (.map ok kvs')
  | var {k g g'} : (∀ j, j < k → CoX Z N R (g j) (g' j)) → ObX Z N R (.var k g) (.var k g')
inductive MX (Z N : MIn) (R : Ren) (m : MOut) : MOut → Prop where
  | nil : MX Z N R m []
  | gone {id l} : MX Z N R m l → MX Z N R m ((id, none) :: l)
  | old {id o o' l} : ofOut m (rho R id) = some o → N.lookup id = none → Z.lookup (rho R id) = none → ObX Z N R o o' → MX Z N R m l → MX Z N R m ((id, some o') :: l)
  | new {id e k n g0 g l} : N.lookup id = some (.row e k 0 g0) → n = 0 → MX Z N R m l → MX Z N R m ((id, some (.row e k n g)) :: l)
def emptyRows (N : MIn) : Bool := N.all fun p => match p.2 with | .row _ _ 0 _ => true | _ => false
def mClosed (ids : List Id) : MOut → Prop
  | [] => True
  | p :: l => (idHas p.1 ids = true ∧ match p.2 with | some o => o.inn ids | none => True) ∧ mClosed ids l
theorem mClosed.get {ids : List Id} : ∀ {m : MOut}, mClosed ids m → ∀ {id o}, ofOut m id = some o → id ∈ ids ∧ o.inn ids
  | [], _, id, o, h => by simp [ofOut] at h
  | (i, x) :: m, hm, id, o, h => by
    unfold ofOut at h
    rw [List.lookup_cons] at h
    cases hb : (id == i) with
    | true =>
      rw [hb] at h
      have : id = i := by simpa using hb
      subst this
      simp at h
      subst h
      exact ⟨idHas_iff.1 hm.1.1, hm.1.2⟩
    | false => rw [hb] at h; exact mClosed.get hm.2 h
/-- Objects of the new state stand for unlike objects of the old one. -/
def renOk (N : MIn) (R : Ren) : List Id → Bool
  | [] => true
  | i :: l => (l.all fun j => idEq j i || !idEq (rho R j) (rho R i) || idHas i (keys N) || idHas j (keys N)) && renOk N R l
theorem renOk.inj {N R} : ∀ {l : List Id}, renOk N R l = true → ∀ {i j}, i ∈ l → j ∈ l → N.lookup i = none → N.lookup j = none → rho R i = rho R j → i = j
  | [], _, i, j, h, _, _, _, _ => by simp at h
  | a :: l, h, i, j, hi, hj, hni, hnj, he => by
    simp only [renOk, Bool.and_eq_true] at h
    have hall := List.all_eq_true.1 h.1
    have hni' := lookup_none_keys.1 hni
    have hnj' := lookup_none_keys.1 hnj
    have key : ∀ x, x ∈ l → N.lookup x = none → N.lookup a = none → rho R x = rho R a → x = a := by
      intro x hx hnx hna hxe
      have := hall x hx
      have h1 := lookup_none_keys.1 hnx
      have h2 := lookup_none_keys.1 hna
      simp only [Bool.or_eq_true, idEq_iff, Bool.not_eq_true', idHas_iff] at this
      rcases this with ((h3 | h3) | h3) | h3
      · exact h3
      · rw [hxe, idEq_iff.2 rfl] at h3; cases h3
      · exact (h2 h3).elim
      · exact (h1 h3).elim
    rcases List.mem_cons.1 hi with hi1 | hi1
    · rcases List.mem_cons.1 hj with hj1 | hj1
      · rw [hi1, hj1]
      · rw [hi1] at he hni ⊢
        exact (key j hj1 hnj hni he.symm).symm
    · rcases List.mem_cons.1 hj with hj1 | hj1
      · rw [hj1] at he hnj ⊢
        exact key i hi1 hni hnj he
      · exact renOk.inj h.2 hi1 hj1 hni hnj he

theorem FrX.get {Z N R fr} : ∀ {l : List (Nat × AV)}, FrX Z N R fr l → ∀ {t v'}, l.lookup t = some v' → ∃ v, fr.lookup t = some v ∧ CoXV Z N R v v'
  | [], _, t, v', h => by simp at h
  | (t0, v0) :: l, hx, t, v', h => by
    cases hx with
    | cons h1 h2 h3 =>
      rcases mem_lookup_cons h with ⟨rfl, rfl⟩ | ⟨_, h4⟩
      · exact ⟨_, h1, h2⟩
      · exact FrX.get h3 h4
theorem MX.get {Z N R m} : ∀ {l : MOut}, MX Z N R m l → ∀ {id o'}, ofOut l id = some o' → (∃ o, ofOut m (rho R id) = some o ∧ N.lookup id = none ∧ Z.lookup (rho R id) = none ∧ ObX Z N R o o') ∨ ∃ e k g0 g, N.lookup id = some (.row e k 0 g0) ∧ o' = .row e k 0 g
  | [], _, id, o, h => by simp [ofOut] at h
  | (i0, x0) :: l, hx, id, o, h => by
    unfold ofOut at h
    rw [List.lookup_cons] at h
    cases hb : (id == i0) with
    | true =>
      rw [hb] at h
      have : id = i0 := by simpa using hb
      subst this
      cases hx with
      | gone => simp at h
      | old h1 h2 h3 h4 _ => simp at h; subst h; exact .inl ⟨_, h1, h2, h3, h4⟩
      | new h1 h2 _ => simp at h; subst h; subst h2; exact .inr ⟨_, _, _, _, h1, rfl⟩
    | false =>
      rw [hb] at h
      cases hx with
      | gone h5 => exact MX.get h5 h
      | old _ _ _ _ h5 => exact MX.get h5 h
      | new _ _ h5 => exact MX.get h5 h

def phiN (φ : Id → Option Ref) (N : MIn) (R : Ren) : Id → Option Ref := fun id =>
  match N.lookup id with | some (.row _ k _ _) => some ⟨none, k, 0, fun _ => rfl⟩ | _ => φ (rho R id)
section
variable {G : List (Addr × Value)} {φ : Id → Option Ref} {F : Nat → Prop} {m : Mem} {w : World} {Z N : MIn} {R : Ren}
theorem phiN_none {id : Id} (h : N.lookup id = none) : phiN φ N R id = φ (rho R id) := by unfold phiN; rw [h]
theorem CoX.rep (h : SimM G φ F m w) (hz : ∀ id o, Z.lookup id = some o → m id = some o) {c c'} (hc : CoX Z N R c c') : ∀ {u}, repC φ F w c u → repC (phiN φ N R) (frzF φ F Z) w c' u := by
  induction hc with
  | d hd =>
    intro u hu
    have := repC.later (later_frz (Z := Z)) _ u hu
    simp only [repC] at this ⊢
    exact hd.rep this
  | nil hl =>
    intro u hu
    simp only [repC, repD] at hu ⊢
    obtain ⟨rfl, _⟩ := hu
    exact ⟨_, by unfold phiN; rw [hl], rfl, Nat.le_refl _⟩
  | cut hl hle hg =>
    intro u hu
    have := cut_rep h hz hl hle hg hu
    simp only [repC]
    exact this
  | sl h1 h2 => intro u hu; subst h2; simp only [repC] at hu ⊢; rw [phiN_none h1]; exact hu
  | ptr h1 h2 => intro u hu; subst h2; simp only [repC] at hu ⊢; rw [phiN_none h1]; exact hu
  | ptrR h1 h2 => intro u hu; subst h2; simp only [repC] at hu ⊢; rw [phiN_none h1]; exact hu
  | mp h1 h2 => intro u hu; subst h2; simp only [repC] at hu ⊢; rw [phiN_none h1]; exact hu
  | clo _ ih =>
    intro u hu
    simp only [repC] at hu ⊢
    obtain ⟨vs, h1, h2, h3⟩ := hu
    exact ⟨vs, h1, h2, fun j v hv => ih j (by have := (List.getElem?_eq_some_iff.1 hv).1; omega) (h3 j v hv)⟩
  | ifc _ ih =>
    intro u hu
    simp only [repC] at hu ⊢
    obtain ⟨v, h1, h2⟩ := hu
    exact ⟨v, h1, ih h2⟩
theorem CoXV.rep (h : SimM G φ F m w) (hz : ∀ id o, Z.lookup id = some o → m id = some o) {v v'} (hc : CoXV Z N R v v') : ∀ {u}, repAV φ F w v u → repAV (phiN φ N R) (frzF φ F Z) w v' u := by
  induction hc with
  | one h1 => intro u hu; simp only [repAV] at hu ⊢; exact h1.rep h hz hu
  | agg h1 =>
    intro u hu
    simp only [repAV] at hu ⊢
    obtain ⟨us, rfl, h2, h3⟩ := hu
    exact ⟨us, rfl, h2, fun j v hv => (h1 j (by have := (List.getElem?_eq_some_iff.1 hv).1; omega)).rep h hz (h3 j v hv)⟩
  | tup h1 ih =>
    intro u hu
    simp only [repAV] at hu ⊢
    obtain ⟨us, rfl, h2, h3⟩ := hu
    exact ⟨us, rfl, h2, fun j v hv => ih j (by have := (List.getElem?_eq_some_iff.1 hv).1; omega) (h3 j v hv)⟩
theorem CoXVs.rep (h : SimM G φ F m w) (hz : ∀ id o, Z.lookup id = some o → m id = some o) {vs vs'} (hc : CoXVs Z N R vs vs') : ∀ {us}, repAVs φ F w vs us → repAVs (phiN φ N R) (frzF φ F Z) w vs' us := by
  induction hc with
  | nil => intro us hu; simpa only [repAVs] using hu
  | cons h1 h2 ih =>
    intro us hu
    simp only [repAVs] at hu ⊢
    obtain ⟨v, vs, rfl, h3, h4⟩ := hu
    exact ⟨v, vs, rfl, h1.rep h hz h3, ih h4⟩

theorem ObX.rep (h : SimM G φ F m w) (hz : ∀ id o, Z.lookup id = some o → m id = some o) {o o'} (hc : ObX Z N R o o') {r} (ho : objRep φ F w r o) : objRep (phiN φ N R) (frzF φ F Z) w r o' := by
  cases hc with
  | row hn hg =>
    obtain ⟨h2, h3, h4, h5⟩ := ho
    refine ⟨h2, by omega, h4, h5.imp id ?_⟩
    rintro ⟨b, cur, h6, h7, h8, h9⟩
    refine ⟨b, cur, h6, h7, h8, fun i j hi hj => ?_⟩
    obtain ⟨x, hx, hr⟩ := h9 i j (by omega) hj
    refine ⟨x, hx, ?_⟩
    have := repC.later (later_frz (Z := Z)) _ _ hr
    simp only [repC] at this ⊢
    exact (hg i j hi hj).rep this
  | rowC hn hg =>
    obtain ⟨h2, h3, h4, h5⟩ := ho
    refine ⟨h2, by omega, h4, h5.imp id ?_⟩
    rintro ⟨b, cur, h6, h7, h8, h9⟩
    refine ⟨b, cur, h6, h7, h8, fun i j hi hj => ?_⟩
    obtain ⟨x, hx, hr⟩ := h9 i j (by omega) hj
    exact ⟨x, hx, (hg i j hi hj).rep h hz hr⟩
  | rowDC hn hg =>
    obtain ⟨h2, h3, h4, h5⟩ := ho
    refine ⟨h2, by omega, h4, h5.imp id ?_⟩
    rintro ⟨b, cur, h6, h7, h8, h9⟩
    refine ⟨b, cur, h6, h7, h8, fun i j hi hj => ?_⟩
    obtain ⟨x, hx, hr⟩ := h9 i j (by omega) hj
    exact ⟨x, hx, (hg i j hi hj).rep h hz hr⟩
  | map h5 => subst h5; exact ho
  | var hg =>
    obtain ⟨b, arr, e, h6, h7, h8, h9⟩ := ho
    exact ⟨b, arr, e, h6, h7, h8, fun j v hv => (hg j (by have := (List.getElem?_eq_some_iff.1 hv).1; omega)).rep h hz (h9 j v hv)⟩

/-- Memory said otherwise: rows Z are frozen, nil slices become the empty rows N, ids are named anew by R (new, old). -/
theorem SimM.co {m : MOut} (h : SimM G φ F (ofOut m) w) (hz : ∀ id o, Z.lookup id = some o → ofOut m id = some o) (hN0 : emptyRows N = true) {m' : MOut} {ids : List Id} (hm : MX Z N R m m') (hcl : mClosed ids m') (hren : renOk N R (keys m') = true) :
    SimM G (fun id => if id ∈ ids then phiN φ N R id else none) (frzF φ F Z) (ofOut m') w ∧
    (∀ b, liveBlk (fun id => if id ∈ ids then phiN φ N R id else none) (ofOut m') b → liveBlk φ (ofOut m) b) := by
  obtain ⟨hfz, hsz⟩ := h.freeze hz
  have hNrow : ∀ id o, N.lookup id = some o → ∃ e k g, o = .row e k 0 g := by
    intro id o hl
    have := List.all_eq_true.1 hN0 (id, o) (lookup_mem hl)
    simp only at this
    split at this
    · exact ⟨_, _, _, rfl⟩
    · cases this
  have hmk : ∀ id o, ofOut m' id = some o → id ∈ keys m' := by
    intro id o hid
    rw [lookup_keys]
    unfold ofOut at hid
    cases hl : m'.lookup id with
    | none => rw [hl] at hid; cases hid
    | some x => rfl
  have hcase : ∀ id o r b, ofOut m' id = some o → phiN φ N R id = some r → r.b = some b → ∃ o0, putM (ofOut m) (dead Z) (rho R id) = some o0 ∧ ofOut m (rho R id) = some o0 ∧ φ (rho R id) = some r ∧ N.lookup id = none := by
    intro id o r b h1 h2 h3
    rcases hm.get h1 with ⟨o0, k1, k2, k3, _⟩ | ⟨e, k, g0, g, k1, rfl⟩
    · rw [phiN_none k2] at h2
      refine ⟨o0, ?_, k1, h2, k2⟩
      unfold putM; rw [lookup_dead, k3]; exact k1
    · unfold phiN at h2
      rw [k1] at h2
      cases h2
      cases h3
  have hmem : SimM G (phiN φ N R) (frzF φ F Z) (ofOut m') w := by
    refine ⟨?_, ?_, ?_, hfz.frz, hfz.amb⟩
    · intro id o' hid
      rcases hm.get hid with ⟨o0, k1, k2, k3, k4⟩ | ⟨e, k, g0, g, k1, rfl⟩
      · obtain ⟨r, hr, hor⟩ := h.obj _ o0 k1
        exact ⟨r, by rw [phiN_none k2]; exact hr, k4.rep h hz hor⟩
      · exact ⟨⟨none, k, 0, fun _ => rfl⟩, by unfold phiN; rw [k1], rfl, Nat.le_refl _, Nat.zero_le _, .inl ⟨rfl, rfl⟩⟩
    · rintro b ⟨id, o, r, h1, h2, h3⟩
      obtain ⟨o0, k1, _, k2, _⟩ := hcase id o r b h1 h2 h3
      exact hfz.live b ⟨_, o0, r, k1, k2, h3⟩
    · intro id1 id2 o1 o2 r1 r2 b h1 h2 h3 h4 h5 h6
      obtain ⟨p1, k1, _, k2, k3⟩ := hcase id1 o1 r1 b h1 h3 h5
      obtain ⟨p2, k4, _, k5, k6⟩ := hcase id2 o2 r2 b h2 h4 h6
      have := hfz.inj _ _ p1 p2 r1 r2 b k1 k4 k2 k5 h5 h6
      exact renOk.inj hren (hmk _ _ h1) (hmk _ _ h2) k3 k6 this
  refine ⟨hmem.ids (l := ids) (fun id hid => if_pos hid) (fun id o hid => hcl.get hid), ?_⟩
  rintro b ⟨id, o, r, h1, h2, h3⟩
  simp only [if_pos (hcl.get h1).1] at h2
  obtain ⟨o0, k1, k2, k3, _⟩ := hcase id o r b h1 h2 h3
  exact ⟨_, o0, r, k2, k3, h3⟩
end
def frClosed (ids : List Id) : List (Nat × AV) → Bool
  | [] => true
  | p :: l => p.2.inn ids && frClosed ids l
theorem frClosed.get {ids : List Id} : ∀ {l : List (Nat × AV)}, frClosed ids l = true → ∀ {t v}, l.lookup t = some v → v.inn ids = true
  | [], _, t, v, h => by simp at h
  | (t0, v0) :: l, hc, t, v, h => by
    simp only [frClosed, Bool.and_eq_true] at hc
    rcases mem_lookup_cons h with ⟨rfl, rfl⟩ | ⟨_, h4⟩
    · exact hc.1
    · exact frClosed.get hc.2 h4
/-- The ids of the beginning keep their names. -/
def rootOk (N : MIn) (R : Ren) (ids : List Id) (l : List Id) : Bool := l.all fun id => idHas id ids && idEq (rho R id) id && !idHas id (keys N)
theorem rootOk.get {N R ids l} (h : rootOk N R ids l = true) {id : Id} (hid : id ∈ l) : id ∈ ids ∧ rho R id = id ∧ N.lookup id = none := by
  have := List.all_eq_true.1 h id hid
  simp only [Bool.and_eq_true, idHas_iff, idEq_iff, Bool.not_eq_true', ← Bool.not_eq_true] at this
  exact ⟨this.1.1, this.1.2, lookup_none_keys.2 this.2⟩

/-- A state that says it otherwise. -/
theorem ent_co {E : Env} {S S' : St} (Z N : MIn) (R : Ren) (hZ : Sub Z S.m) (hN0 : emptyRows N = true) (hfr : FrX Z N R S.fr S'.fr) (hm : MX Z N R S.m S'.m) (hcf : frClosed S'.ids S'.fr = true) (hcl : mClosed S'.ids S'.m) (hren : renOk N R (keys S'.m) = true) (hmi : rootOk N R S'.ids (keys E.mi) = true) : Ent E S S' := by
  intro a w φ F hs
  have hz : ∀ id o, Z.lookup id = some o → ofOut S.m id = some o := fun id o hl => hZ.get hl
  obtain ⟨_, hsz⟩ := hs.mem.freeze hz
  obtain ⟨hmem, hlive⟩ := hs.mem.co hz hN0 hm hcl hren
  have hm0ids : ∀ id o, E.m0 id = some o → id ∈ S'.ids ∧ phiN φ N R id = φ id := by
    intro id o hid
    unfold Env.m0 ofIn at hid
    obtain ⟨h1, h2, h3⟩ := rootOk.get hmi (id := id) (by rw [lookup_keys, hid]; rfl)
    exact ⟨h1, by rw [phiN_none h3, h2]⟩
  refine ⟨_, _, hs.defers, hs.size, ?_, hmem, ?_, ?_, ?_⟩
  · intro t v' ht
    obtain ⟨v, h1, h2⟩ := hfr.get ht
    obtain ⟨h3, h4⟩ := hs.slots t v h1
    exact ⟨h3, repAV.ids (l := S'.ids) (fun id hid => if_pos hid) _ _ (frClosed.get hcf ht) (h2.rep hs.mem hz h4)⟩
  · intro id r hr
    by_cases hid : id ∈ S'.ids
    · exact hid
    · simp only [if_neg hid] at hr; cases hr
  · intro id o hid
    obtain ⟨r, hr⟩ := hs.root id o hid
    obtain ⟨h1, h2⟩ := hm0ids id o hid
    exact ⟨r, by simp only [if_pos h1]; rw [h2]; exact hr⟩
  · have h1 := hs.since.trans hsz (fun _ _ _ => rfl)
    refine ⟨h1.os, h1.tape, h1.output, h1.size, h1.keep, h1.frz, h1.frzNew, fun b hb => hs.since.live b (hlive b hb), fun id o hid => ?_⟩
    obtain ⟨h2, h3⟩ := hm0ids id o hid
    simp only [if_pos h2]
    rw [h3]
    exact hs.since.ids id o hid

/-! ### facts that a state brings -/
theorem awp_lst {E c S} {Q : Exit → St → Prop} (t : Nat) {k n : Nat} {g : Nat → Nat → D} (h : S.fr.lookup t = some (.one (.d (.lst k n g)))) (hk : n ≤ 9223372036854775807 → AWP E c Q S) : AWP E c Q S := by
  intro a w φ F hs
  have h1 := (hs.slots t _ h).2
  simp only [repAV, repC, repD] at h1
  obtain ⟨a', cap, _, h3, h4, _⟩ := h1
  refine hk ?_ a w φ F hs
  simp only [maxLen] at h4; omega
theorem awp_row {E c S} {Q : Exit → St → Prop} (id : Id) {e k n : Nat} {g : Nat → Nat → D} (ho : ofOut S.m id = some (.row e k n g)) (hk : n ≤ 9223372036854775807 → AWP E c Q S) : AWP E c Q S := by
  intro a w φ F hs
  obtain ⟨r', hr', hor⟩ := hs.mem.obj id _ ho
  obtain ⟨_, h3, h4, _⟩ := hor
  refine hk ?_ a w φ F hs
  simp only [maxLen] at h4; omega
end Go.Bw
