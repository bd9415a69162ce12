/- Abstract walk over contents given by functions, part 15: states said otherwise, worked out; loops; where ways meet; results; calls. -/
import Derived.Test.YticpndkcicgenaaDoorBw14
set_option linter.unusedVariables false
set_option linter.unusedSimpArgs false
namespace Go.Bw
open Go.RowKit

/-! ### names, by program -/
def rhoF (R : Ren) (id : Id) : Id := match R with
  | [] => id
  | (a, b) :: l => bif idEq id a then b else rhoF l id
theorem rhoF_eq (id : Id) : ∀ R : Ren, rhoF R id = rho R id
  | [] => rfl
  | (a, b) :: l => by
    unfold rhoF rho
    rw [List.lookup_cons, idEq_eq]
    cases h : (id == a) with
    | true => rfl
    | false => simp only [cond_false]; rw [rhoF_eq id l]; rfl
def lookN (id : Id) : MIn → Option AObj
  | [] => none
  | (i, o) :: l => bif idEq id i then some o else lookN id l
theorem lookN_eq (id : Id) : ∀ Z : MIn, lookN id Z = Z.lookup id
  | [] => rfl
  | (i, o) :: l => by
    unfold lookN
    rw [List.lookup_cons, idEq_eq]
    cases h : (id == i) with
    | true => rfl
    | false => simp only [cond_false]; exact lookN_eq id l
def hasK (id : Id) : Ren → Bool
  | [] => false
  | (a, _) :: l => idEq id a || hasK id l
abbrev Ki := Ren → List Id → List Id → Prop
def addR (id' id : Id) (R : Ren) (Z N : List Id) (K : Ki) : Prop := bif idEq id' id || hasK id' R then K R Z N else K ((id', id) :: R) Z N
def addI (id : Id) (l : List Id) (K : List Id → Prop) : Prop := bif idHas id l then K l else K (id :: l)
def infG : Nat → (Nat → Ren → List Id → List Id → Ki → Prop) → Ren → List Id → List Id → Ki → Prop
  | 0, _, R, Z, N, K => K R Z N
  | n + 1, p, R, Z, N, K => infG n p R Z N fun R Z N => p n R Z N K
def infC : C → C → Ren → List Id → List Id → Ki → Prop
  | .sl id _ _, .sl id' _ _, R, Z, N, K => addR id' id R Z N K
  | .ptr id _, .ptr id' _, R, Z, N, K => addR id' id R Z N K
  | .ptrR id _ _, .ptrR id' _ _, R, Z, N, K => addR id' id R Z N K
  | .mp id, .mp id', R, Z, N, K => addR id' id R Z N K
  | .d (.raw (.slice none 0 0)), .sl id' _ _, R, Z, N, K => addI id' N fun N => K R Z N
  | .sl id _ _, .d _, R, Z, N, K => addI id Z fun Z => K R Z N
  | .clo _ n caps, .clo _ _ caps', R, Z, N, K => infG n (fun j => infC (caps j) (caps' j)) R Z N K
  | .ifc _ c, .ifc _ c', R, Z, N, K => infC c c' R Z N K
  | _, _, R, Z, N, K => K R Z N
def infV : AV → AV → Ren → List Id → List Id → Ki → Prop
  | .one c, .one c', R, Z, N, K => infC c c' R Z N K
  | .agg k g, .agg _ g', R, Z, N, K => bif Nat.ble k 16 then infG k (fun j => infC (g j) (g' j)) R Z N K else K R Z N
  | .tup n g, .tup _ g', R, Z, N, K => infG n (fun j => infV (g j) (g' j)) R Z N K
  | _, _, R, Z, N, K => K R Z N
def infVs : List AV → List AV → Ren → List Id → List Id → Ki → Prop
  | v :: vs, v' :: vs', R, Z, N, K => infV v v' R Z N fun R Z N => infVs vs vs' R Z N K
  | _, _, R, Z, N, K => K R Z N
def infFr (fr : Fr) : Fr → Ren → List Id → List Id → Ki → Prop
  | [], R, Z, N, K => K R Z N
  | (t, v') :: l, R, Z, N, K => match look t fr with
    | some v => infV v v' R Z N fun R Z N => infFr fr l R Z N K
    | none => infFr fr l R Z N K
def infO : AObj → AObj → Ren → List Id → List Id → Ki → Prop
  | .var k g, .var _ g', R, Z, N, K => bif Nat.ble k 16 then infG k (fun j => infC (g j) (g' j)) R Z N K else K R Z N
  | _, _, R, Z, N, K => K R Z N
def infM (m : MOut) : MOut → Ren → List Id → List Id → Ki → Prop
  | [], R, Z, N, K => K R Z N
  | (id', some o') :: l, R, Z, N, K => match lookI (rhoF R id') m with
    | some o => infO o o' R Z N fun R Z N => infM m l R Z N K
    | none => infM m l R Z N K
  | _ :: l, R, Z, N, K => infM m l R Z N K
def infMI (m : MOut) : MIn → Ren → List Id → List Id → Ki → Prop
  | [], R, Z, N, K => K R Z N
  | (id', o') :: l, R, Z, N, K => match lookI (rhoF R id') m with
    | some o => infO o o' R Z N fun R Z N => infMI m l R Z N K
    | none => infMI m l R Z N K

def Some3 (K : Ki) : Prop := ∃ R Z N, K R Z N
theorem cond_imp {b : Bool} {X Y T : Prop} (h : bif b then X else Y) (hx : X → T) (hy : Y → T) : T := by
  cases b with
  | true => exact hx h
  | false => exact hy h
theorem addR_ok {id' id R Z N} {K : Ki} (h : addR id' id R Z N K) : Some3 K := cond_imp h (fun h => ⟨_, _, _, h⟩) fun h => ⟨_, _, _, h⟩
theorem addI_ok {id l} {K : List Id → Prop} (h : addI id l K) : ∃ l, K l := cond_imp h (fun h => ⟨_, h⟩) fun h => ⟨_, h⟩
theorem infG_ok {p : Nat → Ren → List Id → List Id → Ki → Prop} (hp : ∀ j R Z N K, p j R Z N K → Some3 K) : ∀ {n R Z N} {K : Ki}, infG n p R Z N K → Some3 K
  | 0, _, _, _, _, h => ⟨_, _, _, h⟩
  | n + 1, R, Z, N, K, h => by
    obtain ⟨R, Z, N, h⟩ := infG_ok hp (n := n) h
    exact hp _ _ _ _ _ h
theorem infC_ok : ∀ (c c' : C) (R : Ren) (Z N : List Id) (K : Ki), infC c c' R Z N K → Some3 K := by
  intro c
  induction c with
  | clo f n caps ih =>
    intro c' R Z N K h
    cases c' with
    | clo f' n' caps' => exact infG_ok (fun j R Z N K h => ih j _ R Z N K h) h
    | _ => exact ⟨_, _, _, h⟩
  | ifc t c ih =>
    intro c' R Z N K h
    cases c' with
    | ifc t' c' => exact ih _ _ _ _ _ h
    | _ => exact ⟨_, _, _, h⟩
  | _ =>
    intro c' R Z N K h
    unfold infC at h
    split at h <;> first
      | contradiction
      | exact addR_ok h
      | (obtain ⟨l, h⟩ := addI_ok h; exact ⟨_, _, _, h⟩)
      | exact ⟨_, _, _, h⟩
theorem infV_ok : ∀ (c c' : AV) (R : Ren) (Z N : List Id) (K : Ki), infV c c' R Z N K → Some3 K := by
  intro c
  induction c with
  | one c =>
    intro c' R Z N K h
    cases c' with
    | one c' => exact infC_ok _ _ _ _ _ _ h
    | _ => exact ⟨_, _, _, h⟩
  | agg k g =>
    intro c' R Z N K h
    cases c' with
    | agg k' g' => exact cond_imp h (fun h => infG_ok (fun j R Z N K h => infC_ok _ _ R Z N K h) h) fun h => ⟨_, _, _, h⟩
    | _ => exact ⟨_, _, _, h⟩
  | tup n g ih =>
    intro c' R Z N K h
    cases c' with
    | tup n' g' => exact infG_ok (fun j R Z N K h => ih j _ R Z N K h) h
    | _ => exact ⟨_, _, _, h⟩
theorem infVs_ok : ∀ {vs vs' : List AV} {R : Ren} {Z N : List Id} {K : Ki}, infVs vs vs' R Z N K → Some3 K
  | [], _, _, _, _, _, h => ⟨_, _, _, h⟩
  | _ :: _, [], _, _, _, _, h => ⟨_, _, _, h⟩
  | v :: vs, v' :: vs', R, Z, N, K, h => by
    obtain ⟨R, Z, N, h⟩ := infV_ok _ _ _ _ _ _ h
    exact infVs_ok h
theorem infFr_ok {fr : Fr} : ∀ {l : Fr} {R : Ren} {Z N : List Id} {K : Ki}, infFr fr l R Z N K → Some3 K
  | [], _, _, _, _, h => ⟨_, _, _, h⟩
  | (t, v') :: l, R, Z, N, K, h => by
    unfold infFr at h
    split at h
    · obtain ⟨R, Z, N, h⟩ := infV_ok _ _ _ _ _ _ h
      exact infFr_ok h
    · exact infFr_ok h
theorem infO_ok {o o' : AObj} {R : Ren} {Z N : List Id} {K : Ki} (h : infO o o' R Z N K) : Some3 K := by
  unfold infO at h
  split at h
  · exact cond_imp h (fun h => infG_ok (fun j R Z N K h => infC_ok _ _ R Z N K h) h) fun h => ⟨_, _, _, h⟩
  · exact ⟨_, _, _, h⟩
theorem infM_ok {m : MOut} : ∀ {l : MOut} {R : Ren} {Z N : List Id} {K : Ki}, infM m l R Z N K → Some3 K
  | [], _, _, _, _, h => ⟨_, _, _, h⟩
  | (id', none) :: l, R, Z, N, K, h => infM_ok (l := l) h
  | (id', some o') :: l, R, Z, N, K, h => by
    unfold infM at h
    split at h
    · obtain ⟨R, Z, N, h⟩ := infO_ok h
      exact infM_ok h
    · exact infM_ok h
theorem infMI_ok {m : MOut} : ∀ {l : MIn} {R : Ren} {Z N : List Id} {K : Ki}, infMI m l R Z N K → Some3 K
  | [], _, _, _, _, h => ⟨_, _, _, h⟩
  | (id', o') :: l, R, Z, N, K, h => by
    unfold infMI at h
    split at h
    · obtain ⟨R, Z, N, h⟩ := infO_ok h
      exact infMI_ok h
    · exact infMI_ok h
/-- The rows to be frozen. -/
def withZ (m : MOut) : List Id → MIn → (MIn → Prop) → Prop
  | [], acc, K => K acc
  | id :: l, acc, K => match lookI id m with
    | some (.row e k n g) => withZ m l ((id, .row e k n g) :: acc) K
    | _ => False
theorem withZ_ok {m : MOut} : ∀ {l : List Id} {acc : MIn} {K : MIn → Prop}, withZ m l acc K → Sub acc m → ∃ Z, Sub Z m ∧ K Z
  | [], acc, K, h, hs => ⟨acc, hs, h⟩
  | id :: l, acc, K, h, hs => by
    unfold withZ at h
    split at h
    · rename_i hl
      rw [lookI_eq] at hl
      exact withZ_ok h ⟨hl, hs⟩
    · exact h.elim
/-- The rows that stand for nil slices. -/
def withN (m : MOut) : List Id → MIn → (MIn → Prop) → Prop
  | [], acc, K => K acc
  | id :: l, acc, K => match lookI id m with
    | some (.row e k _ g) => withN m l ((id, .row e k 0 g) :: acc) K
    | _ => False
theorem withN_ok {m : MOut} : ∀ {l : List Id} {acc : MIn} {K : MIn → Prop}, withN m l acc K → emptyRows acc = true → ∃ N, emptyRows N = true ∧ K N
  | [], acc, K, h, hs => ⟨acc, hs, h⟩
  | id :: l, acc, K, h, hs => by
    unfold withN at h
    split at h
    · exact withN_ok h (by simp only [emptyRows, List.all_cons, Bool.true_and] at hs ⊢; exact hs)
    · exact h.elim

/-! ### what has to be shown -/
def chkU (u u' : Value) : Prop := match u, u' with
  | .int k a, .int k' a' => bcond (decide (k = k')) (a = a') False
  | .string ⟨⟨l⟩⟩, .string ⟨⟨l'⟩⟩ => l = l'
  | .bool b, .bool b' => b = b'
  | u, u' => u = u'
theorem chkU_ok {u u' : Value} (h : chkU u u') : u = u' := by
  unfold chkU at h
  split at h
  · obtain ⟨h1, h2⟩ := bcond_ok h
    have := of_decide_eq_true h1
    subst this; subst h2; rfl
  · subst h; rfl
  · subst h; rfl
  · exact h
def chkD (x y : D) : Prop := match x, y with
  | .raw (.slice none 0 0), .lst _ n _ => n = 0
  | .raw u, .raw u' => chkU u u'
  | .lst k n g, .lst k' n' g' => bcond (Nat.beq k k') (n = n' ∧ ∀ i j, i < n' → j < k' → CoD (g i j) (g' i j)) False
  | .fptr k g, .fptr k' g' => bcond (Nat.ble k' k) (∀ j, j < k' → CoD (g j) (g' j)) False
  | _, _ => False
theorem chkD_ok {x y : D} (h : chkD x y) : CoD x y := by
  unfold chkD at h
  split at h
  · subst h; exact .nil _ _
  · rw [chkU_ok h]; exact .refl _
  · obtain ⟨h1, h2, h3⟩ := bcond_ok h
    have := Nat.eq_of_beq_eq_true h1
    subst this; subst h2
    exact .lst h3
  · obtain ⟨h1, h2⟩ := bcond_ok h
    exact .fptr (Nat.le_of_ble_eq_true h1) h2
  · exact h.elim
def allP : Nat → (Nat → Prop) → Prop
  | 0, _ => True
  | 1, p => p 0
  | n + 2, p => allP (n + 1) p ∧ p (n + 1)
theorem allP_ok : ∀ {n : Nat} {p : Nat → Prop}, allP n p → ∀ j, j < n → p j
  | 0, p, _, j, hj => by omega
  | 1, p, h, j, hj => by have : j = 0 := by omega
                         subst this; exact h
  | n + 2, p, h, j, hj => by
    by_cases e : j = n + 1
    · subst e; exact h.2
    · exact allP_ok h.1 j (by omega)
def allB (n : Nat) (p : Nat → Prop) : Prop := match Nat.ble n 16 with
  | true => allP n p
  | false => ∀ j, j < n → p j
theorem allB_ok {n : Nat} {p : Nat → Prop} (h : allB n p) : ∀ j, j < n → p j := by
  unfold allB at h
  split at h
  · exact allP_ok h
  · exact h
def chkC (Z N : MIn) (R : Ren) : C → C → Prop
  | .d (.raw (.slice none 0 0)), .sl id' lo n => match lookN id' N with
    | some (.row _ _ 0 _) => lo = 0 ∧ n = 0
    | _ => False
  | .d x, .d y => chkD x y
  | .sl id lo n, .sl id' lo' n' => bcond (idEq (rhoF R id') id && !idHas id' (keys N)) (lo = lo' ∧ n = n') False
  | .sl id lo n, .d (.lst k n' g') => match lookN id Z with
    | some (.row _ k0 nn g) => bcond (Nat.beq k0 k) (n = n' ∧ lo + n ≤ nn ∧ ∀ i j, i < n' → j < k → CoD (sh lo g i j) (g' i j)) False
    | _ => False
  | .ptr id off, .ptr id' off' => bcond (idEq (rhoF R id') id && !idHas id' (keys N)) (off = off') False
  | .ptrR id i j, .ptrR id' i' j' => bcond (idEq (rhoF R id') id && !idHas id' (keys N)) (i = i' ∧ j = j') False
  | .mp id, .mp id' => bcond (idEq (rhoF R id') id && !idHas id' (keys N)) True False
  | .clo f n caps, .clo f' n' caps' => bcond (Nat.beq f f' && Nat.beq n n') (allB n fun j => chkC Z N R (caps j) (caps' j)) False
  | .ifc t c, .ifc t' c' => bcond (Nat.beq t t') (chkC Z N R c c') False
  | _, _ => False
section
variable {Z N : MIn} {R : Ren}
theorem stat_ok {id id' : Id} (h : (idEq (rhoF R id') id && !idHas id' (keys N)) = true) : N.lookup id' = none ∧ rho R id' = id := by
  simp only [Bool.and_eq_true, Bool.not_eq_true', ← Bool.not_eq_true, idHas_iff, idEq_iff, rhoF_eq] at h
  exact ⟨lookup_none_keys.2 h.2, h.1⟩
theorem chkC_ok : ∀ {c c' : C}, chkC Z N R c c' → CoX Z N R c c' := by
  intro c
  induction c with
  | clo f n caps ih =>
    intro c' h
    cases c' with
    | clo f' n' caps' =>
      unfold chkC at h
      obtain ⟨h1, h2⟩ := bcond_ok h
      simp only [Bool.and_eq_true] at h1
      have e1 := Nat.eq_of_beq_eq_true h1.1
      have e2 := Nat.eq_of_beq_eq_true h1.2
      subst e1; subst e2
      exact .clo fun j hj => ih j (allB_ok h2 j hj)
    | _ => exact h.elim
  | ifc t c ih =>
    intro c' h
    cases c' with
    | ifc t' c' =>
      unfold chkC at h
      obtain ⟨h1, h2⟩ := bcond_ok h
      have e1 := Nat.eq_of_beq_eq_true h1
      subst e1
      exact .ifc (ih h2)
    | _ => exact h.elim
  | d x =>
    intro c' h
    unfold chkC at h
    split at h
    · rename_i id' lo n he
      cases he
      split at h
      · rename_i e k g hl
        rw [lookN_eq] at hl
        obtain ⟨rfl, rfl⟩ := h
        exact .nil hl
      · exact h.elim
    · rename_i x' y _ he
      cases he
      exact .d (chkD_ok h)
    all_goals first | exact h.elim | (rename_i he; cases he) | (rename_i he _; cases he)
  | sl id lo n =>
    intro c' h
    cases c' with
    | sl id' lo' n' =>
      unfold chkC at h
      obtain ⟨h1, rfl, rfl⟩ := bcond_ok h
      obtain ⟨h2, h3⟩ := stat_ok h1
      exact .sl h2 h3
    | d y =>
      cases y with
      | lst k n' g' =>
        unfold chkC at h
        split at h
        · rename_i e k0 nn g hl
          rw [lookN_eq] at hl
          obtain ⟨h1, rfl, h2, h3⟩ := bcond_ok h
          have e1 := Nat.eq_of_beq_eq_true h1
          subst e1
          exact .cut hl h2 fun i j hi hj => by have := h3 i j hi hj; rwa [sh_eq] at this
        · exact h.elim
      | _ => exact h.elim
    | _ => exact h.elim
  | ptr id off =>
    intro c' h
    cases c' with
    | ptr id' off' =>
      unfold chkC at h
      obtain ⟨h1, rfl⟩ := bcond_ok h
      obtain ⟨h2, h3⟩ := stat_ok h1
      exact .ptr h2 h3
    | _ => exact h.elim
  | ptrR id i j =>
    intro c' h
    cases c' with
    | ptrR id' i' j' =>
      unfold chkC at h
      obtain ⟨h1, rfl, rfl⟩ := bcond_ok h
      obtain ⟨h2, h3⟩ := stat_ok h1
      exact .ptrR h2 h3
    | _ => exact h.elim
  | mp id =>
    intro c' h
    cases c' with
    | mp id' =>
      unfold chkC at h
      obtain ⟨h1, _⟩ := bcond_ok h
      obtain ⟨h2, h3⟩ := stat_ok h1
      exact .mp h2 h3
    | _ => exact h.elim
def chkV (Z N : MIn) (R : Ren) : AV → AV → Prop
  | .one c, .one c' => chkC Z N R c c'
  | .agg k g, .agg k' g' => bcond (Nat.beq k k') (allB k fun j => chkC Z N R (g j) (g' j)) False
  | .tup n g, .tup n' g' => bcond (Nat.beq n n') (allB n fun j => chkV Z N R (g j) (g' j)) False
  | _, _ => False
theorem chkV_ok : ∀ {c c' : AV}, chkV Z N R c c' → CoXV Z N R c c' := by
  intro c
  induction c with
  | one c =>
    intro c' h
    cases c' with
    | one c' => exact .one (chkC_ok h)
    | _ => exact h.elim
  | agg k g =>
    intro c' h
    cases c' with
    | agg k' g' =>
      obtain ⟨h1, h2⟩ := bcond_ok h
      have e1 := Nat.eq_of_beq_eq_true h1
      subst e1
      exact .agg fun j hj => chkC_ok (allB_ok h2 j hj)
    | _ => exact h.elim
  | tup n g ih =>
    intro c' h
    cases c' with
    | tup n' g' =>
      obtain ⟨h1, h2⟩ := bcond_ok h
      have e1 := Nat.eq_of_beq_eq_true h1
      subst e1
      exact .tup fun j hj => ih j (allB_ok h2 j hj)
    | _ => exact h.elim
def chkVs (Z N : MIn) (R : Ren) : List AV → List AV → Prop
  | [], [] => True
  | v :: vs, v' :: vs' => chkV Z N R v v' ∧ chkVs Z N R vs vs'
  | _, _ => False
theorem chkVs_ok : ∀ {vs vs' : List AV}, chkVs Z N R vs vs' → CoXVs Z N R vs vs'
  | [], [], _ => .nil
  | v :: vs, v' :: vs', h => .cons (chkV_ok h.1) (chkVs_ok h.2)
  | [], _ :: _, h => h.elim
  | _ :: _, [], h => h.elim
def chkFr (Z N : MIn) (R : Ren) (fr : Fr) : Fr → Prop
  | [] => True
  | (t, v') :: l => (match look t fr with | some v => chkV Z N R v v' | none => False) ∧ chkFr Z N R fr l
theorem chkFr_ok {fr : Fr} : ∀ {l : Fr}, chkFr Z N R fr l → FrX Z N R fr l
  | [], _ => .nil
  | (t, v') :: l, h => by
    obtain ⟨h1, h2⟩ := h
    split at h1
    · rename_i v hv
      rw [look_eq] at hv
      exact .cons hv (chkV_ok h1) (chkFr_ok h2)
    · exact h1.elim
def chkO (Z N : MIn) (R : Ren) : AObj → AObj → Prop
  | .var k g, .var k' g' => bcond (Nat.beq k k') (allB k fun j => chkC Z N R (g j) (g' j)) False
  | .row e k n g, .row e' k' n' g' => bcond (Nat.beq e e' && Nat.beq k k') (n' ≤ n ∧ ∀ i j, i < n' → j < k' → CoD (g i j) (g' i j)) False
  | .rowC e k n g, .rowC e' k' n' g' => bcond (Nat.beq e e' && Nat.beq k k') (n' ≤ n ∧ ∀ i j, i < n' → j < k' → CoX Z N R (g i j) (g' i j)) False
  | .row e k n g, .rowC e' k' n' g' => bcond (Nat.beq e e' && Nat.beq k k') (n' ≤ n ∧ ∀ i j, i < n' → j < k' → CoX Z N R (.d (g i j)) (g' i j)) False
  | .map ok kvs, .map ok' kvs' => ok = ok' ∧ kvs = kvs'
  | _, _ => False
theorem chkO_ok {o o' : AObj} (h : chkO Z N R o o') : ObX Z N R o o' := by
  unfold chkO at h
  split at h
  · obtain ⟨h1, h2⟩ := bcond_ok h
    have e1 := Nat.eq_of_beq_eq_true h1
    subst e1
    exact .var fun j hj => chkC_ok (allB_ok h2 j hj)
  · obtain ⟨h1, h2, h3⟩ := bcond_ok h
    simp only [Bool.and_eq_true] at h1
    have e1 := Nat.eq_of_beq_eq_true h1.1
    have e2 := Nat.eq_of_beq_eq_true h1.2
    subst e1; subst e2
    exact .row h2 h3
  · obtain ⟨h1, h2, h3⟩ := bcond_ok h
    simp only [Bool.and_eq_true] at h1
    have e1 := Nat.eq_of_beq_eq_true h1.1
    have e2 := Nat.eq_of_beq_eq_true h1.2
    subst e1; subst e2
    exact .rowC h2 h3
  · obtain ⟨h1, h2, h3⟩ := bcond_ok h
    simp only [Bool.and_eq_true] at h1
    have e1 := Nat.eq_of_beq_eq_true h1.1
    have e2 := Nat.eq_of_beq_eq_true h1.2
    subst e1; subst e2
    exact .rowDC h2 h3
  · obtain ⟨rfl, rfl⟩ := h
    exact .map rfl
  · exact h.elim
def chkM (Z N : MIn) (R : Ren) (m : MOut) : MOut → Prop
  | [] => True
  | (_, none) :: l => chkM Z N R m l
  | (id', some o') :: l => (match lookN id' N with
    | some o => match o, o' with
      | .row e k 0 _, .row e' k' n _ => bcond (Nat.beq e e' && Nat.beq k k') (n = 0) False
      | _, _ => False
    | none => match lookI (rhoF R id') m with
      | some o => bcond (!idHas (rhoF R id') (keys Z)) (chkO Z N R o o') False
      | none => False) ∧ chkM Z N R m l
theorem chkM_ok {m : MOut} : ∀ {l : MOut}, chkM Z N R m l → MX Z N R m l
  | [], _ => .nil
  | (id', none) :: l, h => .gone (chkM_ok (l := l) h)
  | (id', some o') :: l, h => by
    obtain ⟨h1, h2⟩ := h
    split at h1
    · rename_i o hN
      rw [lookN_eq] at hN
      split at h1
      · obtain ⟨h3, rfl⟩ := bcond_ok h1
        simp only [Bool.and_eq_true] at h3
        have e1 := Nat.eq_of_beq_eq_true h3.1
        have e2 := Nat.eq_of_beq_eq_true h3.2
        subst e1; subst e2
        exact .new hN rfl (chkM_ok h2)
      · exact h1.elim
    · rename_i hN
      rw [lookN_eq] at hN
      split at h1
      · rename_i o ho
        obtain ⟨h3, h4⟩ := bcond_ok h1
        rw [rhoF_eq] at ho h3
        rw [lookI_eq] at ho
        simp only [Bool.not_eq_true', ← Bool.not_eq_true, idHas_iff] at h3
        exact .old ho hN (lookup_none_keys.2 h3) (chkO_ok h4) (chkM_ok h2)
      · exact h1.elim
end
def oInn (ids : List Id) (o : AObj) (X : Prop) : Prop := match o with
  | .var k g => bcond (allTo k fun j => (g j).inn ids) X False
  | .rowC _ k n g => (∀ i j, i < n → j < k → (g i j).inn ids = true) ∧ X
  | _ => X
theorem oInn_ok {ids : List Id} {o : AObj} {X : Prop} (h : oInn ids o X) : o.inn ids ∧ X := by
  cases o with
  | var k g => exact bcond_ok h
  | rowC e k n g => exact h
  | row => exact ⟨trivial, h⟩
  | map => exact ⟨trivial, h⟩
def mClP (ids : List Id) : MOut → Prop → Prop
  | [], X => X
  | (id, none) :: l, X => bcond (idHas id ids) (mClP ids l X) False
  | (id, some o) :: l, X => bcond (idHas id ids) (oInn ids o (mClP ids l X)) False
theorem mClP_ok {ids : List Id} : ∀ {m : MOut} {X : Prop}, mClP ids m X → mClosed ids m ∧ X
  | [], X, h => ⟨trivial, h⟩
  | (id, none) :: l, X, h => by
    obtain ⟨h1, h2⟩ := bcond_ok h
    obtain ⟨h3, h4⟩ := mClP_ok (m := l) h2
    exact ⟨⟨⟨h1, trivial⟩, h3⟩, h4⟩
  | (id, some o) :: l, X, h => by
    obtain ⟨h1, h2⟩ := bcond_ok h
    obtain ⟨h3, h4⟩ := oInn_ok h2
    obtain ⟨h5, h6⟩ := mClP_ok (m := l) h4
    exact ⟨⟨⟨h1, h3⟩, h5⟩, h6⟩

/-- That a state may be said otherwise: what has to be shown. -/
def entP (E : Env) (S S' : St) : Prop :=
  infFr S.fr S'.fr [] [] [] fun R Z N => infM S.m S'.m R Z N fun R Z N => withZ S.m Z [] fun Z => withN S'.m N [] fun N =>
    bcond (frClosed S'.ids S'.fr && renOk N R (keys S'.m) && rootOk N R S'.ids (keys E.mi)) (mClP S'.ids S'.m (chkFr Z N R S.fr S'.fr ∧ chkM Z N R S.m S'.m)) False
theorem ent_auto {E : Env} {S S' : St} (h : entP E S S') : Ent E S S' := by
  obtain ⟨R, Z, N, h⟩ := infFr_ok h
  obtain ⟨R, Z, N, h⟩ := infM_ok h
  obtain ⟨Z, hZ, h⟩ := withZ_ok h trivial
  obtain ⟨N, hN, h⟩ := withN_ok h rfl
  obtain ⟨h1, h⟩ := bcond_ok h
  obtain ⟨h2, h3, h4⟩ := mClP_ok h
  simp only [Bool.and_eq_true] at h1
  exact ent_co Z N R hZ hN (chkFr_ok h3) (chkM_ok h4) h1.1.1 h2 h1.1.2 h1.2

/-! ### loops -/
theorem code_ap {E : Env} (Xt : Tab E.P) {c : Code} {K : Kc} {fr : Fr} {m : MOut} {ids : List Id} (h : apC E Xt.t c K fr m ids) : CodeW E c K fr m ids := by rw [code_iff]; exact ap_sound Xt h
theorem loop_ap {E : Env} {c : Code} {K : Kc} {fr : Fr} {m : MOut} {ids : List Id} (h : LoopW E c K fr m ids) : CodeW E (.loop c) K fr m ids := by rw [code_iff]; rw [loop_iff] at h; exact h
/-- The end of a round. -/
def roundK (E : Env) {α : Type} (I : α → Prop) (T : α → St) (μ : α → Nat) (x : α) (K : Kc) : Kc := fun e fr m ids => match e with
  | .normal => ∃ y, I y ∧ μ y < μ x ∧ Ent E ⟨fr, m, ids⟩ (T y)
  | .ret => K .ret fr m ids
  | .exit i => K (.exit i) fr m ids
  | e => K e fr m ids
theorem loop_inv {E : Env} {c : Code} {K : Kc} {fr : Fr} {m : MOut} {ids : List Id} {α : Type} (I : α → Prop) (T : α → St) (μ : α → Nat) (x0 : α) (h0 : I x0) (hE : Ent E ⟨fr, m, ids⟩ (T x0))
    (h : ∀ x, I x → CodeW E c (roundK E I T μ x K) (T x).fr (T x).m (T x).ids) : LoopW E c K fr m ids := by
  rw [loop_iff]
  refine awp_loop (α := {x // I x}) (fun x => T x.1) (fun x => μ x.1) ⟨x0, h0⟩ hE ?_
  rintro ⟨x, hx⟩
  have h := h x hx
  rw [code_iff] at h
  refine awp_mono h ?_
  intro e S hS
  cases e with
  | normal =>
    obtain ⟨y, h1, h2, h3⟩ := hS
    exact ⟨⟨y, h1⟩, h2, h3⟩
  | _ => exact hS

/-- A loop, its rounds laid out. -/
def RoundsW (E : Env) (c : Code) (K : Kc) : Nat → Fr → MOut → List Id → Prop
  | 0, _, _, _ => False
  | n + 1, fr, m, ids => CodeW E c (fun e fr m ids => match e with
    | .normal => RoundsW E c K n fr m ids
    | .ret => K .ret fr m ids
    | .exit i => K (.exit i) fr m ids
    | e => K e fr m ids) fr m ids
theorem rounds_a {E : Env} {c : Code} {K : Kc} : ∀ {n : Nat} {fr : Fr} {m : MOut} {ids : List Id}, RoundsW E c K n fr m ids → ARounds E c (qof K) n ⟨fr, m, ids⟩
  | 0, _, _, _, h => h
  | n + 1, fr, m, ids, h => by
    have h : CodeW _ _ _ _ _ _ := h
    rw [code_iff] at h
    refine awp_mono h ?_
    intro e S hS
    cases e with
    | normal => exact rounds_a hS
    | _ => exact hS
theorem loop_rounds {E : Env} {c : Code} {K : Kc} {fr : Fr} {m : MOut} {ids : List Id} (n : Nat) (h : RoundsW E c K n fr m ids) : LoopW E c K fr m ids := by
  rw [loop_iff]
  exact awp_rounds n (rounds_a h)

/-- The slots that code assigns. -/
def asgO : List Oper → List Nat → List Nat
  | [], acc => acc
  | o :: l, acc => match o.dst with
    | some d => asgO l (d :: acc)
    | none => asgO l acc
def asg : Code → List Nat → List Nat
  | .seq x y, acc => asg y (asg x acc)
  | .block _ c, acc => asg c acc
  | .cond _ x y, acc => asg y (asg x acc)
  | .region _ ⟨ops⟩ _, acc => asgO ops acc
  | .loop c, acc => asg c acc
  | _, acc => acc
def memN (n : Nat) : List Nat → Bool
  | [] => false
  | k :: l => Nat.beq n k || memN n l
/-- The slots that a loop leaves alone. -/
def keepF : List Nat → Fr → (Fr → Prop) → Prop
  | _, [], K => K []
  | seen, (t, v) :: l, K => bif memN t seen then keepF seen l K else keepF (t :: seen) l fun l' => K ((t, v) :: l')
/-- The objects that are not told of. -/
def keepM : List Id → MOut → (MOut → Prop) → Prop
  | _, [], K => K []
  | seen, (id, o) :: l, K => bif idHas id seen then keepM seen l K else match o with
    | none => keepM (id :: seen) l K
    | some ob => keepM (id :: seen) l fun l' => K ((id, some ob) :: l')
theorem keepF_ok : ∀ {fr : Fr} {seen : List Nat} {K : Fr → Prop}, keepF seen fr K → ∃ l, K l
  | [], _, K, h => ⟨_, h⟩
  | (t, v) :: l, seen, K, h => cond_imp h (fun h => keepF_ok h) fun h => by
    obtain ⟨l, h⟩ := keepF_ok h
    exact ⟨_, h⟩
theorem keepM_ok : ∀ {m : MOut} {seen : List Id} {K : MOut → Prop}, keepM seen m K → ∃ l, K l
  | [], _, K, h => ⟨_, h⟩
  | (id, o) :: l, seen, K, h => cond_imp h (fun h => keepM_ok h) fun h => by
    cases o with
    | none => exact keepM_ok h
    | some ob =>
      obtain ⟨l, h⟩ := keepM_ok h
      exact ⟨_, h⟩
/-- Ids, each once. -/
def uniq : List Id → List Id → (List Id → Prop) → Prop
  | [], acc, K => K acc
  | i :: l, acc, K => bif idHas i acc then uniq l acc K else uniq l (i :: acc) K
theorem uniq_ok : ∀ {l acc : List Id} {K : List Id → Prop}, uniq l acc K → ∃ l, K l
  | [], acc, K, h => ⟨_, h⟩
  | i :: l, acc, K, h => cond_imp h (fun h => uniq_ok h) fun h => uniq_ok h
def dropF (ts : List Nat) : Fr → Fr
  | [] => []
  | (t, v) :: l => bif memN t ts then dropF ts l else (t, v) :: dropF ts l
def fkeys : Fr → List Nat
  | [] => []
  | (t, _) :: l => t :: fkeys l
/-- Slots told anew, over the others. -/
def ovr (s fr : Fr) : Fr := s ++ dropF (fkeys s) fr
/-- A loop: only what changes is told; the rest of the state stays. -/
def loopU (E : Env) (c : Code) (K : Kc) (fr : Fr) (m : MOut) (ids : List Id) {α : Type} (I : α → Prop) (sl : α → Fr) (ob : α → MOut) (μ : α → Nat) (x0 : α) : Prop :=
  keepF (asg c []) fr fun fr' => keepM (keys (ob x0)) m fun m' => uniq (keys (ob x0) ++ (keys m' ++ keys E.mi)) [] fun ids' =>
    entP E ⟨fr, m, ids⟩ ⟨ovr (sl x0) fr', ob x0 ++ m', ids'⟩ ∧ ∀ x, I x → CodeW E c (roundK E I (fun x => ⟨ovr (sl x) fr', ob x ++ m', ids'⟩) μ x K) (ovr (sl x) fr') (ob x ++ m') ids'
theorem loop_u {E : Env} {c : Code} {K : Kc} {fr : Fr} {m : MOut} {ids : List Id} {α : Type} (I : α → Prop) (sl : α → Fr) (ob : α → MOut) (μ : α → Nat) (x0 : α) (h0 : I x0) (h : loopU E c K fr m ids I sl ob μ x0) : LoopW E c K fr m ids := by
  obtain ⟨fr', h⟩ := keepF_ok h
  obtain ⟨m', h⟩ := keepM_ok h
  obtain ⟨ids', h1, h2⟩ := uniq_ok h
  exact loop_inv I (fun x => ⟨ovr (sl x) fr', ob x ++ m', ids'⟩) μ x0 h0 (ent_auto h1) h2
theorem round_end {E : Env} {α : Type} {I : α → Prop} {T : α → St} {μ : α → Nat} {x : α} {fr : Fr} {m : MOut} {ids : List Id} (y : α) (h1 : I y) (h2 : μ y < μ x) (h3 : entP E ⟨fr, m, ids⟩ (T y)) : ∃ y, I y ∧ μ y < μ x ∧ Ent E ⟨fr, m, ids⟩ (T y) := ⟨y, h1, h2, ent_auto h3⟩

/-! ### tests -/
section
variable {E : Env} {x y : Code} {K : Kc} {fr : Fr} {m : MOut} {ids : List Id} {p : Prop} [Decidable p]
theorem cond_T (h : p) (k : CodeW E x K fr m ids) : condS E (sb p) x y K fr m ids := by unfold sb; rw [decide_eq_true h]; exact k
theorem cond_F (h : ¬ p) (k : CodeW E y K fr m ids) : condS E (sb p) x y K fr m ids := by unfold sb; rw [decide_eq_false h]; exact k
theorem cond_s (h : p → CodeW E x K fr m ids) (k : ¬ p → CodeW E y K fr m ids) : condS E (sb p) x y K fr m ids := by
  by_cases hp : p
  · exact cond_T hp (h hp)
  · exact cond_F hp (k hp)
theorem cond_b {b : Bool} (h : b = true → CodeW E x K fr m ids) (k : b = false → CodeW E y K fr m ids) : condS E b x y K fr m ids := by
  cases b with
  | true => exact h rfl
  | false => exact k rfl
theorem cond_not {b : Bool} (h : condS E b y x K fr m ids) : condS E (!b) x y K fr m ids := by cases b <;> exact h
theorem cond_eq {b : Bool} (h : b = true) (k : CodeW E x K fr m ids) : condS E b x y K fr m ids := by rw [h]; exact k
theorem cond_ne {b : Bool} (h : b = false) (k : CodeW E y K fr m ids) : condS E b x y K fr m ids := by rw [h]; exact k

/-! ### where ways meet -/
/-- Ways that meet in one of the states T. -/
def joinK (E : Env) {α : Type} (I : α → Prop) (T : α → St) (K : Kc) : Kc := fun e fr m ids => match e with
  | .normal => ∃ z, I z ∧ Ent E ⟨fr, m, ids⟩ (T z)
  | .ret => K .ret fr m ids
  | .exit i => K (.exit i) fr m ids
  | e => K e fr m ids
theorem awp_clo {E : Env} {c : Code} {Q : Exit → St → Prop} {S : St} (h : AWP E c (fun e S => ∃ S', Ent E S S' ∧ Q e S') S) : AWP E c Q S := fun a w φ F hs =>
  Go.wp_mono (h a w φ F hs) fun e a w ⟨S, φ, F, ⟨S', h1, h2⟩, h3⟩ => by
    obtain ⟨φ', F', h4⟩ := h1 a w φ F h3
    exact ⟨S', φ', F', h2, h4⟩
theorem code_join {c : Code} {α : Type} (I : α → Prop) (T : α → St) (h : CodeW E c (joinK E I T K) fr m ids) (k : ∀ z, I z → K .normal (T z).fr (T z).m (T z).ids) : CodeW E c K fr m ids := by
  rw [code_iff] at h ⊢
  refine awp_clo (awp_mono h ?_)
  intro e S hS
  cases e with
  | normal =>
    obtain ⟨z, h1, h2⟩ := hS
    exact ⟨T z, h2, k z h1⟩
  | _ => exact ⟨S, Ent.refl _ _, hS⟩
theorem join_end {E : Env} {α : Type} {I : α → Prop} {T : α → St} {fr : Fr} {m : MOut} {ids : List Id} (z : α) (h1 : I z) (h3 : entP E ⟨fr, m, ids⟩ (T z)) : ∃ z, I z ∧ Ent E ⟨fr, m, ids⟩ (T z) := ⟨z, h1, ent_auto h3⟩
/-- Two ways that meet: what they change is told; the rest of the state stays. -/
def joinU (E : Env) (b : Bool) (x y : Code) (K : Kc) (fr : Fr) (m : MOut) (ids : List Id) {α : Type} (I : α → Prop) (sl : α → Fr) (ob : α → MOut) (ks : List Id) : Prop :=
  keepF (asg y (asg x [])) fr fun fr' => keepM ks m fun m' => uniq (ks ++ (keys m' ++ keys E.mi)) [] fun ids' =>
    condS E b x y (joinK E I (fun x => ⟨ovr (sl x) fr', ob x ++ m', ids'⟩) K) fr m ids ∧ ∀ z, I z → K .normal (ovr (sl z) fr') (ob z ++ m') ids'
theorem cond_join {b : Bool} {α : Type} (I : α → Prop) (sl : α → Fr) (ob : α → MOut) (ks : List Id) (h : joinU E b x y K fr m ids I sl ob ks) : condS E b x y K fr m ids := by
  obtain ⟨fr', h⟩ := keepF_ok h
  obtain ⟨m', h⟩ := keepM_ok h
  obtain ⟨ids', h1, h2⟩ := uniq_ok h
  cases b with
  | true => exact code_join I _ h1 h2
  | false => exact code_join I _ h1 h2
end
/-- A loop whose ways out by one exit meet. -/
def leaveK (E : Env) {α : Type} (j : Nat) (I : α → Prop) (T : α → St) (K : Kc) : Kc := fun e fr m ids => match e with
  | .exit i => bcond (Nat.beq i j) (∃ z, I z ∧ Ent E ⟨fr, m, ids⟩ (T z)) (K (.exit i) fr m ids)
  | .ret => K .ret fr m ids
  | .normal => K .normal fr m ids
  | e => K e fr m ids
def leaveU (E : Env) (c : Code) (K : Kc) (fr : Fr) (m : MOut) (ids : List Id) {α : Type} (j : Nat) (I : α → Prop) (sl : α → Fr) (ob : α → MOut) (ks : List Id) : Prop :=
  keepF (asg c []) fr fun fr' => keepM ks m fun m' => uniq (ks ++ (keys m' ++ keys E.mi)) [] fun ids' =>
    LoopW E c (leaveK E j I (fun x => ⟨ovr (sl x) fr', ob x ++ m', ids'⟩) K) fr m ids ∧ ∀ z, I z → K (.exit j) (ovr (sl z) fr') (ob z ++ m') ids'
theorem loop_leave {E : Env} {c : Code} {K : Kc} {fr : Fr} {m : MOut} {ids : List Id} {α : Type} (j : Nat) (I : α → Prop) (sl : α → Fr) (ob : α → MOut) (ks : List Id) (h : leaveU E c K fr m ids j I sl ob ks) : LoopW E c K fr m ids := by
  obtain ⟨fr', h⟩ := keepF_ok h
  obtain ⟨m', h⟩ := keepM_ok h
  obtain ⟨ids', h1, h2⟩ := uniq_ok h
  rw [loop_iff] at h1 ⊢
  refine awp_clo (awp_mono h1 ?_)
  intro e S hS
  cases e with
  | exit i =>
    simp only [qof, leaveK] at hS
    cases hb : Nat.beq i j with
    | true =>
      rw [hb] at hS
      obtain ⟨z, h3, h4⟩ := hS
      have : i = j := Nat.eq_of_beq_eq_true hb
      subst this
      exact ⟨_, h4, h2 z h3⟩
    | false =>
      rw [hb] at hS
      exact ⟨S, Ent.refl _ _, hS⟩
  | _ => exact ⟨S, Ent.refl _ _, hS⟩

/-! ### results -/
def resA (t : Tr) (fr : Fr) (m : MOut) : List ResultVar → Option (List AV)
  | [] => some []
  | .tmp s :: l => match look s fr with
    | some v => match resA t fr m l with | some vs => some (v :: vs) | none => none
    | none => none
  | .cell s T :: l => match look s fr with
    | some (.one (.ptr id 0)) => match lookI id m, t.get T with
      | some (.var k g), some (X, _) => match Nat.beq k X.size, resA t fr m l with | true, some vs => some (pkA X.k.agg X.size 0 g :: vs) | _, _ => none
      | _, _ => none
    | _ => none
theorem resA_ok {P : Program} (Xt : Tab P) {fr : Fr} {m : MOut} {ids : List Id} : ∀ {rs : List ResultVar} {us : List AV}, resA Xt.t fr m rs = some us → ResAll P ⟨fr, m, ids⟩ rs us
  | [], us, h => by cases h; exact .nil
  | .tmp s :: l, us, h => by
    unfold resA at h
    split at h
    · rename_i v hv
      split at h
      · rename_i vs hvs
        cases h
        rw [look_eq] at hv
        exact .cons hv (resA_ok Xt hvs)
      · cases h
    · cases h
  | .cell s T :: l, us, h => by
    unfold resA at h
    split at h
    · rename_i id hv
      split at h
      · rename_i k g X z hm hT
        split at h
        · rename_i vs hk hvs
          cases h
          have e := Nat.eq_of_beq_eq_true hk
          subst e
          rw [look_eq] at hv
          rw [lookI_eq] at hm
          exact .cons ⟨id, g, X, hv, hm, (Xt.get hT).ti, (Xt.get hT).one, rfl⟩ (resA_ok Xt hvs)
        · cases h
      · cases h
    · cases h
/-- That a body's results and memory are the contract's. -/
def retP (E : Env) (t : Tr) (rs : List ResultVar) (mo : MOut) (vs : List AV) (fr : Fr) (m : MOut) (ids : List Id) : Prop :=
  match resA t fr m rs with
  | some us => infVs us vs [] [] [] fun R Z N => infM m mo R Z N fun R Z N => withZ m Z [] fun Z => withN mo N [] fun N =>
    bcond ((resAV vs).inn (keys mo) && renOk N R (keys mo) && rootOk N R (keys mo) (keys E.mi)) (mClP (keys mo) mo (chkVs Z N R us vs ∧ chkM Z N R m mo)) False
  | none => False
def retK (E : Env) (t : Tr) (rs : List ResultVar) (mo : MOut) (vs : List AV) : Kc := fun e fr m ids => match e with
  | .normal => retP E t rs mo vs fr m ids
  | .ret => retP E t rs mo vs fr m ids
  | _ => False
def forceF : Fr → (Fr → Prop) → Prop
  | [], K => K []
  | (t, v) :: l, K => forceF l fun l' => K ((t, v) :: l')
theorem forceF_ok : ∀ {l : Fr} {K : Fr → Prop}, forceF l K → K l
  | [], K, h => h
  | (t, v) :: l, K, h => forceF_ok (l := l) h
def forceM : MOut → (MOut → Prop) → Prop
  | [], K => K []
  | (t, v) :: l, K => forceM l fun l' => K ((t, v) :: l')
theorem forceM_ok : ∀ {l : MOut} {K : MOut → Prop}, forceM l K → K l
  | [], K, h => h
  | (t, v) :: l, K, h => forceM_ok (l := l) h
def forceI : List Id → (List Id → Prop) → Prop
  | [], K => K []
  | (a, b) :: l, K => forceI l fun l' => K ((a, b) :: l')
theorem forceI_ok : ∀ {l : List Id} {K : List Id → Prop}, forceI l K → K l
  | [], K, h => h
  | (t, v) :: l, K, h => forceI_ok (l := l) h
def startP (E : Env) (t : Tr) (c : Code) (args : List AV) (rd wi : MIn) (wo : MOut) (nw : MIn) (rs : List ResultVar) (vs : List AV) : Prop :=
  forceF (initFr 0 args) fun fr => forceM (lift (rd ++ wi)) fun m => forceI (keys (rd ++ wi)) fun ids => forceM (outs rd wo nw) fun mo => CodeW E c (retK E t rs mo vs) fr m ids
theorem acalls_ap {P : Program} (Xt : Tab P) {G f} {fn : Func} {c : Code} {args : List AV} {rd wi : MIn} {wo : MOut} {nw : MIn} (vs : List AV) (hf : P.funcs[f]? = some fn) (hb : fn.body = some c) (n : Nat) (hn : fn.ntmps = n) (hargs : args.length ≤ n)
    (rs : List ResultVar) (hrs : fn.results = rs.toArray) (hk : keys wo = keys wi) (h : ∀ φ0 F0 w0, startP ⟨P, G, n, φ0, F0, rd ++ wi, w0⟩ Xt.t c args rd wi wo nw rs vs) : ACalls P G f args rd wi wo nw (resAV vs) := by
  refine acalls_of hf hb n hn hargs rs hrs hk ?_
  intro φ0 F0 w0
  have h1 := forceM_ok (forceI_ok (forceM_ok (forceF_ok (h φ0 F0 w0))))
  rw [code_iff] at h1
  refine awp_mono h1 ?_
  intro e S hS
  have fin : retP ⟨P, G, n, φ0, F0, rd ++ wi, w0⟩ Xt.t rs (outs rd wo nw) vs S.fr S.m S.ids → (e = .normal ∨ e = .ret) → RetQ P rs (keys (rd ++ wi)) (outs rd wo nw) (resAV vs) e S := by
    intro h he
    unfold retP at h
    split at h
    · rename_i us hus
      obtain ⟨R, Z, N, h⟩ := infVs_ok h
      obtain ⟨R, Z, N, h⟩ := infM_ok h
      obtain ⟨Z, hZ, h⟩ := withZ_ok h trivial
      obtain ⟨N, hN, h⟩ := withN_ok h rfl
      obtain ⟨h1, h⟩ := bcond_ok h
      obtain ⟨h2, h3, h4⟩ := mClP_ok h
      simp only [Bool.and_eq_true] at h1
      exact ⟨he, us, vs, Z, N, R, resA_ok Xt hus, hZ, hN, chkVs_ok h3, rfl, chkM_ok h4, h1.1.1, h2, h1.1.2, h1.2⟩
    · exact h.elim
  cases e with
  | normal => exact fin hS (.inl rfl)
  | ret => exact fin hS (.inr rfl)
  | _ => exact hS.elim

def bodyOf (fn : Func) : Code := match fn.body with | some c => c | none => .skip
/-- From the walk of a function to its contract. -/
theorem acalls_fn {P : Program} (Xt : Tab P) {G f} {fn : Func} {args : List AV} {rd wi : MIn} {wo : MOut} {nw : MIn} (hf : P.funcs[f]? = some fn) (vs : List AV) (hb : fn.body.isSome = true) (hargs : Nat.ble args.length fn.ntmps = true) (hk : keys wo = keys wi)
    (h : ∀ φ0 F0 w0, startP ⟨P, G, fn.ntmps, φ0, F0, rd ++ wi, w0⟩ Xt.t (bodyOf fn) args rd wi wo nw fn.results.toList vs) : ACalls P G f args rd wi wo nw (resAV vs) := by
  refine acalls_ap Xt vs hf (c := bodyOf fn) ?_ fn.ntmps rfl (Nat.le_of_ble_eq_true hargs) fn.results.toList (by simp) hk h
  unfold bodyOf
  cases h : fn.body with
  | none => rw [h] at hb; cases hb
  | some c => rfl
/-! ### calls -/
def evL (fr : Fr) : List Operand → List AV → (List AV → Prop) → Prop
  | [], acc, K => K acc
  | x :: xs, acc, K => evL fr xs acc fun l => match aevL fr x with | some v => K (v :: l) | none => False
theorem evL_ok {fr : Fr} : ∀ {xs : List Operand} {acc : List AV} {K : List AV → Prop}, evL fr xs acc K → ∃ vs, evs (aev fr) xs = some vs ∧ K (vs ++ acc)
  | [], acc, K, h => ⟨[], rfl, h⟩
  | x :: xs, acc, K, h => by
    obtain ⟨vs, h1, h2⟩ := evL_ok (xs := xs) h
    split at h2
    · rename_i v hv
      rw [aevL_eq] at hv
      exact ⟨v :: vs, by simp only [evs, hv, h1], h2⟩
    · exact h2.elim
/-- Names for what is new. -/
def newR (d : Nat) (ids : List Id) : MIn → Ren → (Ren → Prop) → Prop
  | [], R, K => K R
  | (i, _) :: l, R, K => match pickId d ids 8 0 with
    | (ia, ib) => bcond (!idHas (ia, ib) ids) (newR d ((ia, ib) :: ids) l ((i, (ia, ib)) :: R) K) False
theorem newR_ok {d : Nat} : ∀ {l : MIn} {ids : List Id} {R : Ren} {K : Ren → Prop}, newR d ids l R K → ∃ R, K R
  | [], ids, R, K, h => ⟨R, h⟩
  | (i, o) :: l, ids, R, K, h => by
    unfold newR at h
    generalize pickId d ids 8 0 = pk at h
    obtain ⟨ia, ib⟩ := pk
    obtain ⟨_, h⟩ := bcond_ok h
    exact newR_ok h
/-- The same, with rows that are frozen ahead of the call. -/
def withWZ (m : MOut) (Z : MIn) (R : Ren) : MIn → (MIn → Prop) → Prop
  | [], K => K []
  | (i, o') :: l, K => match rhoF R i with
    | (a, b) => match lookI (a, b) m with
      | some o => chkO Z [] R o o' ∧ withWZ m Z R l fun l' => K (((a, b), o) :: l')
      | none => False
theorem withWZ_ok {m : MOut} {Z : MIn} {R : Ren} : ∀ {l : MIn} {K : MIn → Prop}, withWZ m Z R l K → ∃ w, CoObs Z R w l ∧ Sub w m ∧ K w
  | [], K, h => ⟨[], .nil, trivial, h⟩
  | (i, o') :: l, K, h => by
    unfold withWZ at h
    have key : ∀ p : Id, rhoF R i = p → (match p with | (a, b) => match lookI (a, b) m with | some o => chkO Z [] R o o' ∧ withWZ m Z R l fun l' => K (((a, b), o) :: l') | none => False) → ∃ w, CoObs Z R w ((i, o') :: l) ∧ Sub w m ∧ K w := by
      rintro ⟨a, b⟩ hp h
      simp only at h
      split at h
      · rename_i o ho
        obtain ⟨h1, h2⟩ := h
        obtain ⟨w, h3, h4, h5⟩ := withWZ_ok h2
        rw [lookI_eq] at ho
        rw [rhoF_eq] at hp
        exact ⟨_, .cons hp (chkO_ok h1) h3, ⟨ho, h4⟩, h5⟩
      · exact h.elim
    exact key _ rfl h
/-- Objects that are only read have to be there as they are told. -/
def subP (m : MOut) (R : Ren) : MIn → Prop → Prop
  | [], X => X
  | (i, o) :: l, X => (match lookI (rhoF R i) m with | some o' => o' = o.ren (rhoF R) | none => False) ∧ subP m R l X
theorem rhoF_fun {R : Ren} : rhoF R = rho R := funext fun id => rhoF_eq id R
theorem subP_ok {m : MOut} {R : Ren} : ∀ {l : MIn} {X : Prop}, subP m R l X → Sub (renIn (rho R) l) m ∧ X
  | [], X, h => ⟨trivial, h⟩
  | (i, o) :: l, X, h => by
    obtain ⟨h1, h2⟩ := h
    obtain ⟨h3, h4⟩ := subP_ok h2
    split at h1
    · rename_i o' ho
      subst h1
      rw [rhoF_eq, rhoF_fun, lookI_eq] at ho
      exact ⟨⟨ho, h3⟩, h4⟩
    · exact h1.elim
/-- A naming of all the ids of a contract: (the contract's, the caller's), those too that keep their names. -/
def fullR (R : Ren) : List Id → Ren → (Ren → Prop) → Prop
  | [], acc, K => K acc
  | i :: l, acc, K => bif hasK i acc then fullR R l acc K else match rhoF R i with
    | (a, b) => fullR R l ((i, (a, b)) :: acc) K
theorem fullR_ok {R : Ren} : ∀ {l : List Id} {acc : Ren} {K : Ren → Prop}, fullR R l acc K → ∃ R, K R
  | [], acc, K, h => ⟨acc, h⟩
  | i :: l, acc, K, h => cond_imp h (fun h => fullR_ok h) fun h => by
    generalize rhoF R i = p at h
    obtain ⟨a, b⟩ := p
    exact fullR_ok (l := l) h
def calleeA (fr : Fr) (q : Operand) : Option (FuncId × Nat × (Nat → C)) :=
  match q with
  | .func f => some (f, 0, fun _ => junkC)
  | q => match aevL fr q with
    | some (.one (.clo f n caps)) => some (f, n, caps)
    | some (.one (.d (.raw (.func (.func f) ⟨[]⟩ ⟨[]⟩)))) => some (f, 0, fun _ => junkC)
    | _ => none
theorem calleeA_ok {fr : Fr} {q : Operand} {f : FuncId} {n : Nat} {caps : Nat → C} (h : calleeA fr q = some (f, n, caps)) : aev fr q = some (.one (.clo f n caps)) ∨ n = 0 ∧ aev fr q = some (RV (.func (.func f) #[] #[])) := by
  unfold calleeA at h
  split at h
  · cases h; exact .inr ⟨rfl, rfl⟩
  · split at h
    · rename_i hq; cases h; rw [aevL_eq] at hq; exact .inl hq
    · rename_i hq; cases h; rw [aevL_eq] at hq; exact .inr ⟨rfl, hq⟩
    · cases h
def callP (E : Env) (o : Oper) (f : FuncId) (args' : List AV) (rd wi : MIn) (wo : MOut) (nw : MIn) (v : AV) (fr : Fr) (m : MOut) (ids : List Id) (K : Kt) : Prop :=
  match o.op with
  | .call ⟨.value q, ⟨xs⟩, _⟩ => match calleeA fr q with
    | some (f', n, caps) => bcond (Nat.beq f' f) (evL fr xs [] fun args =>
      infVs (args ++ tolist n fun j => .one (caps j)) args' [] [] [] fun R Z _ => infMI m (rd ++ wi) R Z [] fun R Z _ => fullR R (keys (rd ++ wi)) [] fun R => newR (o.dst.getD 0) ids nw R fun R => withZ m Z [] fun Z =>
        bcond (nameOk R (keys (rd ++ wi) ++ keys nw) && (keys Z).all (fun id => !(R.map (·.2)).contains id) && AV.inns (keys (rd ++ wi)) args' && fresh ids (renIn (rho R) nw))
          (mClP (keys (rd ++ wi)) (lift (rd ++ wi)) (chkVs Z [] R (args ++ tolist n fun j => .one (caps j)) args' ∧ subP m R rd (withWZ m Z R wi fun wi0 => putRec E.N o.dst ⟨renIn (rhoF R) rd, Z ++ wi0, dead Z ++ renOut (rhoF R) wo, renIn (rhoF R) nw, v.ren (rhoF R), true, none⟩ fr m ids K))) False) False
    | none => False
  | _ => False
theorem sub_app {m : MOut} : ∀ {a b : MIn}, Sub a m → Sub b m → Sub (a ++ b) m
  | [], b, _, h => h
  | p :: a, b, h1, h2 => ⟨h1.1, sub_app h1.2 h2⟩
theorem CoObs.keys {Z R} {l l' : MIn} (h : CoObs Z R l l') : Go.Bw.keys l = (Go.Bw.keys l').map (rho R) := by
  induction h with
  | nil => rfl
  | cons h0 _ _ ih =>
    subst h0
    simp only [Go.Bw.keys, List.map_cons] at ih ⊢
    rw [ih]
theorem opx_call {E : Env} {ops : List Oper} {o : Oper} {fr : Fr} {m : MOut} {ids : List Id} {K : Kt} {f : FuncId} {args' : List AV} {rd wi : MIn} {wo : MOut} {nw : MIn} {v : AV} (h : ACalls E.P E.G f args' rd wi wo nw v) (hc : callable E.P f = true) (hk : keys wo = keys wi)
    (hp : callP E o f args' rd wi wo nw v fr m ids K) : OpX E ops o fr m ids K := by
  unfold callP at hp
  split at hp
  · rename_i q xs ts hop
    split at hp
    · rename_i f' n caps hq
      obtain ⟨h1, hp1⟩ := bcond_ok hp
      clear hp
      have e := Nat.eq_of_beq_eq_true h1
      subst e
      obtain ⟨args, ha, hp2⟩ := evL_ok hp1
      rw [List.append_nil] at hp2
      obtain ⟨R1, Z1, _, hp3⟩ := infVs_ok hp2
      obtain ⟨R2, Z2, _, hp4⟩ := infMI_ok hp3
      obtain ⟨R3, hp5⟩ := fullR_ok hp4
      obtain ⟨R, hp6⟩ := newR_ok hp5
      obtain ⟨Z, hZ, hp7⟩ := withZ_ok hp6 trivial
      obtain ⟨hs, hp8⟩ := bcond_ok hp7
      obtain ⟨hcl, hco, hp9⟩ := mClP_ok hp8
      obtain ⟨hrd, hp10⟩ := subP_ok hp9
      obtain ⟨wi0, hw1, hw2, hp⟩ := withWZ_ok hp10
      simp only [Bool.and_eq_true] at hs
      obtain ⟨⟨⟨s1, s2⟩, s3⟩, s4⟩ := hs
      rw [rhoF_fun] at hp
      refine opx_mk _ ⟨rfl, ⟨OpS.callV h hop (calleeA_ok hq) hc ha (chkVs_ok hco) hw1 s1 s2 hk s3 hcl, hrd, sub_app hZ hw2, ?_, s4⟩, fun _ _ _ h => by cases h⟩ hp
      rw [keys_append, keys_append, keys_dead, keys_renOut, hk, hw1.keys]
    · exact hp.elim
  · exact hp.elim
end Go.Bw
