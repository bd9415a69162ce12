/- Abstract walk over contents given by functions, part 6: from a body's walk to a contract; a call by a contract. -/
import Derived.Test.YticpndkcicgenaaDoorBw5
set_option linter.unusedVariables false
set_option linter.unusedSimpArgs false
namespace Go.Bw
open Go.RowKit

def nth {α : Type} (d : α) : List α → Nat → α
  | [], _ => d
  | x :: _, 0 => x
  | _ :: l, n + 1 => nth d l n
theorem nth_get {α : Type} {d : α} : ∀ {l : List α} {j : Nat}, j < l.length → l[j]? = some (nth d l j)
  | [], j, h => by simp at h
  | x :: l, 0, h => rfl
  | x :: l, j + 1, h => by rw [List.getElem?_cons_succ]; exact nth_get (by simpa using h)
abbrev junkA : AV := .one (.d (.raw undef))
abbrev junkC : C := .d (.raw undef)

def ResOne (P : Program) (S : St) : ResultVar → AV → Prop
  | .tmp t, u => S.fr.lookup t = some u
  | .cell t T, u => ∃ id g x, S.fr.lookup t = some (.one (.ptr id 0)) ∧ ofOut S.m id = some (.var x.size g) ∧ tiOf P T = some x ∧ (x.k.agg = false → x.size = 1) ∧ pkA x.k.agg x.size 0 g = u
inductive ResAll (P : Program) (S : St) : List ResultVar → List AV → Prop where
  | nil : ResAll P S [] []
  | cons {r u rs us} : ResOne P S r u → ResAll P S rs us → ResAll P S (r :: rs) (u :: us)
def resAV : List AV → AV
  | [u] => u
  | us => .tup us.length (nth junkA us)
def resV : List Value → Value
  | [u] => u
  | us => .tuple us.toArray

def resF (tmps : Array Value) : ResultVar → Sem Value
  | .tmp t => pure (tmps.getD t undef)
  | .cell a t => do loadVar t (← asAddr (tmps.getD a undef))

theorem run_mapM {P : Program} {w : World} (f : ResultVar → Sem Value) : ∀ (rs : List ResultVar) (us : List Value), rs.length = us.length → (∀ (i : Nat) (r : ResultVar) (u : Value), rs[i]? = some r → us[i]? = some u → (f r).run P w = .ok u w) → (rs.mapM f).run P w = .ok us w
  | [], [], _, _ => by simp
  | [], _ :: _, h, _ => by simp at h
  | _ :: _, [], h, _ => by simp at h
  | r :: rs, u :: us, h, hf => by
    have h0 := hf 0 r u rfl rfl
    have ih := run_mapM f rs us (by simpa using h) (fun i r u h1 h2 => hf (i + 1) r u (by simpa using h1) (by simpa using h2))
    simp only [List.mapM_cons, Sem.run_bind, h0, Result.andThen_ok, ih, Sem.run_pure]

theorem run_results {P : Program} {w : World} {fn : Func} {rs : List ResultVar} (hr : fn.results = rs.toArray) (tmps : Array Value) (us : List Value) (hl : rs.length = us.length)
    (hf : ∀ (i : Nat) (r : ResultVar) (u : Value), rs[i]? = some r → us[i]? = some u → (resF tmps r).run P w = .ok u w) : (results fn tmps).run P w = .ok (resV us) w := by
  have h1 : results fn tmps = (do let vs ← rs.toArray.mapM (resF tmps); pure (if h : vs.size = 1 then vs[0] else .tuple vs)) := by
    unfold results
    rw [hr]
    congr 1
  rw [h1, List.mapM_toArray]
  simp only [Sem.run_bind, map_eq_pure_bind, run_mapM (resF tmps) rs us hl hf, Result.andThen_ok, Sem.run_pure]
  congr 1
  match us with
  | [] => simp [resV]
  | [u] => simp [resV]
  | u :: v :: us => simp [resV]

theorem ResOne.run {E S a w φ F} (hs : Sim E S a w φ F) {r : ResultVar} {u : AV} (h : ResOne E.P S r u) : ∃ x, (resF a.tmps r).run E.P w = .ok x w ∧ repAV φ F w u x := by
  cases r with
  | tmp t => exact ⟨_, by simp [resF], (hs.slots t u h).2⟩
  | cell t T =>
    obtain ⟨id, g, x, h1, h2, h3, h4, h5⟩ := h
    have h6 := (hs.slots t _ h1).2
    simp only [repAV, repC] at h6
    obtain ⟨r, b, h7, h8, h9⟩ := h6
    obtain ⟨r', h10, h11⟩ := hs.mem.obj id _ h2
    rw [h7] at h10; cases h10
    obtain ⟨b', arr, e, h12, h13, h14, h15⟩ := h11
    rw [h8] at h12; cases h12
    have := run_loadVar_at h3 w b 0 arr.toList h14 (fun hag => by rw [h14]; exact h4 hag) (fun j v hj => by rw [Nat.zero_add, cell_of_row w b j arr e (0, 0) h13]; simpa using hj)
    refine ⟨packV x.k.agg arr.toList, by simp [resF, h9, asAddr, this], ?_⟩
    rw [← h5]
    exact repAV_pkA h14 h4 (fun j v hj => by rw [Nat.zero_add]; exact h15 j v hj)

theorem ResAll.run {E S a w φ F} (hs : Sim E S a w φ F) {rs : List ResultVar} {us : List AV} (h : ResAll E.P S rs us) :
    ∃ xs : List Value, rs.length = xs.length ∧ (∀ (i : Nat) (r : ResultVar) (u : Value), rs[i]? = some r → xs[i]? = some u → (resF a.tmps r).run E.P w = .ok u w) ∧ repAVs φ F w us xs := by
  induction h with
  | nil => exact ⟨[], rfl, by simp, by simp only [repAVs]⟩
  | cons h1 h2 ih =>
    obtain ⟨x, hx, hr⟩ := h1.run hs
    obtain ⟨xs, hl, hf, hrs⟩ := ih
    refine ⟨x :: xs, by simp [hl], ?_, by simp only [repAVs]; exact ⟨x, xs, rfl, hr, hrs⟩⟩
    intro i r u h3 h4
    cases i with
    | zero => simp at h3 h4; subst h3; subst h4; exact hx
    | succ i => exact hf i r u (by simpa using h3) (by simpa using h4)

theorem repAVs_nth {φ F w} : ∀ {us : List AV} {xs : List Value}, repAVs φ F w us xs → ∀ j v, xs[j]? = some v → repAV φ F w (nth junkA us j) v
  | [], xs, h, j, v, hv => by simp only [repAVs] at h; subst h; simp at hv
  | u :: us, xs, h, j, v, hv => by
    simp only [repAVs] at h
    obtain ⟨x, xs', rfl, h1, h2⟩ := h
    cases j with
    | zero => simp at hv; subst hv; exact h1
    | succ j => exact repAVs_nth h2 j v (by simpa using hv)
theorem repAV_res {φ F w} {us : List AV} {xs : List Value} (h : repAVs φ F w us xs) : repAV φ F w (resAV us) (resV xs) := by
  have hl := repAVs.length h
  match us, xs, hl with
  | [], [], _ => simp only [resAV, resV, repAV]; exact ⟨[], rfl, rfl, fun j v hv => by simp at hv⟩
  | [u], [x], _ =>
    simp only [repAVs] at h
    obtain ⟨v, vs, he, h1, rfl⟩ := h
    cases he
    exact h1
  | u :: u2 :: us, x :: x2 :: xs, hl => simp only [resAV, resV, repAV]; exact ⟨_, rfl, hl, repAVs_nth h⟩

/-- What a body's walk must come to. -/
def RetQ (P : Program) (rs : List ResultVar) (mi : List Id) (mo : MOut) (v : AV) : Exit → St → Prop := fun ex S => (ex = .normal ∨ ex = .ret) ∧
  ∃ us us' Z N R, ResAll P S rs us ∧ Sub Z S.m ∧ emptyRows N = true ∧ CoXVs Z N R us us' ∧ resAV us' = v ∧ MX Z N R S.m mo ∧ v.inn (keys mo) = true ∧ mClosed (keys mo) mo ∧ renOk N R (keys mo) = true ∧ rootOk N R (keys mo) mi = true

def initFr : Nat → List AV → List (Nat × AV)
  | _, [] => []
  | i, a :: as => (i, a) :: initFr (i + 1) as

theorem initFr_get {φ F w} : ∀ {as : List AV} {vs : List Value} {k : Nat}, repAVs φ F w as vs → ∀ {t v}, (initFr k as).lookup t = some v → k ≤ t ∧ t < k + vs.length ∧ ∃ u, vs[t - k]? = some u ∧ repAV φ F w v u
  | [], vs, k, h, t, v, hl => by simp [initFr] at hl
  | a :: as, vs, k, h, t, v, hl => by
    simp only [repAVs] at h
    obtain ⟨u, us, rfl, h1, h2⟩ := h
    rcases mem_lookup_cons hl with ⟨rfl, rfl⟩ | ⟨hne, hl'⟩
    · exact ⟨Nat.le_refl _, by simp, u, by simp, h1⟩
    · obtain ⟨h3, h4, x, h5, h6⟩ := initFr_get h2 hl'
      refine ⟨by omega, by simp only [List.length_cons]; omega, x, ?_, h6⟩
      rw [show t - k = (t - (k + 1)) + 1 by omega, List.getElem?_cons_succ]
      exact h5

theorem acalls_of {P : Program} {G f} {fn : Func} {c : Code} {args : List AV} {rd wi : MIn} {wo : MOut} {nw : MIn} {v : AV} (hf : P.funcs[f]? = some fn) (hb : fn.body = some c) (n : Nat) (hn : fn.ntmps = n) (hargs : args.length ≤ n)
    (rs : List ResultVar) (hrs : fn.results = rs.toArray) (hk : keys wo = keys wi)
    (h : ∀ φ0 F0 w0, AWP ⟨P, G, n, φ0, F0, rd ++ wi, w0⟩ c (RetQ P rs (keys (rd ++ wi)) (outs rd wo nw) v) ⟨initFr 0 args, lift (rd ++ wi), keys (rd ++ wi)⟩) : ACalls P G f args rd wi wo nw v := by
  intro w φ F vs hs hdom hvs
  refine calls_of_wp hf hb ?_
  have hlen := repAVs.length hvs
  have hsim : Sim ⟨P, G, n, φ, F, rd ++ wi, w⟩ ⟨initFr 0 args, lift (rd ++ wi), keys (rd ++ wi)⟩ { tmps := vs.toArray ++ Array.replicate (fn.ntmps - vs.toArray.size) undef, defers := [] } w φ F := by
    refine ⟨rfl, ?_, ?_, ?_, hdom, ?_, ?_⟩
    · simp; omega
    · intro t u hu
      obtain ⟨_, h2, x, h3, h4⟩ := initFr_get hvs hu
      refine ⟨by show t < n; omega, ?_⟩
      have hx : (vs.toArray ++ Array.replicate (fn.ntmps - vs.toArray.size) undef).getD t undef = x := by
        rw [Array.getD_eq_getD_getElem?, Array.getElem?_append_left (by simp; omega)]
        have : vs[t]? = some x := by simpa using h3
        simp [this]
      rw [hx]; exact h4
    · show SimM G φ F (ofOut (lift (rd ++ wi))) w
      rw [ofOut_lift]; exact hs
    · intro id o hid
      obtain ⟨r, hr, _⟩ := hs.obj id o hid
      exact ⟨r, hr⟩
    · show Since φ F (ofIn (rd ++ wi)) w φ F (ofOut (lift (rd ++ wi))) w
      rw [ofOut_lift]; exact Since.refl _ _ _ _
  have hw := h φ F w _ _ _ _ hsim
  refine Go.wp_mono hw ?_
  rintro ex a w' ⟨S, φ', F', ⟨hex, us, us', Z, N, R, h1, h4, hN0, h2, h3, h5, h6, hcl, hren, hroot⟩, hS⟩
  have hgoal : a.defers = [] ∧ ∃ x, (results fn a.tmps).run P w' = .ok x w' ∧ ∃ u φ' F', Ending.returned x = .returned u ∧ SimM G φ' F' (ofOut (outs rd wo nw)) w' ∧ repAV φ' F' w' v u ∧ Since φ F (ofIn (rd ++ wi)) w φ' F' (ofOut (outs rd wo nw)) w' ∧ ∀ id r, φ' id = some r → id ∈ keys (outs rd wo nw) := by
    refine ⟨hS.defers, ?_⟩
    obtain ⟨xs, hxl, hxf, hxr⟩ := h1.run hS
    have hrun := run_results hrs a.tmps xs hxl hxf
    have hzz : ∀ id o, Z.lookup id = some o → ofOut S.m id = some o := fun id o hl => h4.get hl
    obtain ⟨_, hsz⟩ := hS.mem.freeze hzz
    obtain ⟨hmem, hlive⟩ := hS.mem.co hzz hN0 h5 hcl hren
    have hres := repAV_res (h2.rep hS.mem hzz hxr)
    rw [h3] at hres
    refine ⟨_, hrun, _, _, _, rfl, hmem, repAV.ids (l := keys (outs rd wo nw)) (fun id hid => if_pos hid) _ _ h6 hres, ?_, ?_⟩
    · have h7 := hS.since.trans hsz (fun _ _ _ => rfl)
      refine ⟨h7.os, h7.tape, h7.output, h7.size, h7.keep, h7.frz, h7.frzNew, fun b hb => hS.since.live b (hlive b hb), fun id o hid => ?_⟩
      have hidk : id ∈ keys (rd ++ wi) := by rw [lookup_keys]; unfold ofIn at hid; rw [hid]; rfl
      obtain ⟨r1, r2, r3⟩ := rootOk.get hroot hidk
      simp only [if_pos r1]
      rw [phiN_none r3, r2]
      exact hS.since.ids id o hid
    · intro id r hr
      by_cases hid : id ∈ keys (outs rd wo nw)
      · exact hid
      · simp only [if_neg hid] at hr; cases hr
  rcases hex with rfl | rfl <;> exact hgoal

/-- A function that a call enters. -/
def callable (P : Program) (f : FuncId) : Bool :=
  match P.funcs[f]? with
  | some fn => fn.name != "runtime.NumGoroutine" && fn.body.isSome
  | none => false

theorem run_callFunc {P : Program} {f : FuncId} (h : callable P f = true) (args : Array Value) (w : World) : (callFunc f args).run P w = .ok (.enter f args) w := by
  unfold callable at h
  unfold callFunc
  simp only [Sem.run_bind, program, Sem.run, Result.andThen_ok]
  split at h
  · rename_i fn hf
    simp only [hf]
    simp only [Bool.and_eq_true, bne_iff_ne] at h
    obtain ⟨h1, h2⟩ := h
    have h3 : (fn.name == "runtime.NumGoroutine") = false := by simpa using h1
    have h4 : fn.body.isNone = false := by cases hb : fn.body <;> simp_all
    simp [h3, h4]
  · cases h

def evs (ae : Operand → Option AV) : List Operand → Option (List AV)
  | [] => some []
  | x :: xs => match ae x, evs ae xs with | some v, some vs => some (v :: vs) | _, _ => none
theorem evs_rep {φ F w ae} {ρ : Operand → Value} : ∀ {xs : List Operand} {vs}, evs ae xs = some vs → (∀ x ∈ xs, ∀ u, ae x = some u → repAV φ F w u (ρ x)) → repAVs φ F w vs (xs.map ρ)
  | [], vs, h, _ => by simp [evs] at h; subst h; simp only [repAVs, List.map_nil]
  | x :: xs, vs, h, ho => by
    simp only [evs] at h
    split at h
    · rename_i v vs' h1 h2
      cases h
      simp only [repAVs, List.map_cons]
      exact ⟨_, _, rfl, ho x (by simp) v h1, evs_rep h2 (fun y hy => ho y (by simp [hy]))⟩
    · cases h

/-- The inverse of a naming. -/
def inv (R : Ren) (id : Id) : Option Id := (R.find? fun p => p.2 == id).map (·.1)
/-- A naming of all the ids of a contract: (the contract's, the caller's), no two alike. -/
def nameOk (R : Ren) (l : List Id) : Bool := (l.all fun i => (keys R).contains i) && R.all fun p => R.all fun q => (p.1 == q.1) == (p.2 == q.2)
def renIn (ρ : Id → Id) (l : MIn) : MIn := l.map fun p => (ρ p.1, p.2.ren ρ)
def renOut (ρ : Id → Id) (l : MOut) : MOut := l.map fun p => (ρ p.1, p.2.map (AObj.ren ρ))
theorem lookup_renIn {ρ : Id → Id} : ∀ {l : MIn} {id : Id}, (∀ i ∈ keys l, ρ i = ρ id → i = id) → (renIn ρ l).lookup (ρ id) = (l.lookup id).map (AObj.ren ρ)
  | [], id, _ => rfl
  | (i, o) :: l, id, h => by
    simp only [renIn, List.map_cons, List.lookup_cons]
    by_cases e : id = i
    · subst e; simp
    · have h1 : (id == i) = false := by simpa using e
      have h2 : (ρ id == ρ i) = false := by
        simp only [beq_eq_false_iff_ne, ne_eq]
        intro e2
        exact e (h i (by simp [keys]) e2.symm).symm
      rw [h1, h2]
      exact lookup_renIn fun j hj => h j (List.mem_cons_of_mem _ hj)
theorem lookup_renOut {ρ : Id → Id} : ∀ {l : MOut} {id : Id}, (∀ i ∈ keys l, ρ i = ρ id → i = id) → (renOut ρ l).lookup (ρ id) = (l.lookup id).map (Option.map (AObj.ren ρ))
  | [], id, _ => rfl
  | (i, o) :: l, id, h => by
    simp only [renOut, List.map_cons, List.lookup_cons]
    by_cases e : id = i
    · subst e; simp
    · have h1 : (id == i) = false := by simpa using e
      have h2 : (ρ id == ρ i) = false := by
        simp only [beq_eq_false_iff_ne, ne_eq]
        intro e2
        exact e (h i (by simp [keys]) e2.symm).symm
      rw [h1, h2]
      exact lookup_renOut fun j hj => h j (List.mem_cons_of_mem _ hj)
theorem keys_renIn {ρ : Id → Id} {l : MIn} : keys (renIn ρ l) = (keys l).map ρ := by simp [keys, renIn, Function.comp_def]
theorem keys_renOut {ρ : Id → Id} {l : MOut} : keys (renOut ρ l) = (keys l).map ρ := by simp [keys, renOut, Function.comp_def]
theorem renIn_append {ρ : Id → Id} {a b : MIn} : renIn ρ (a ++ b) = renIn ρ a ++ renIn ρ b := by simp [renIn]
theorem renOut_outs {ρ : Id → Id} {rd : MIn} {wo : MOut} {nw : MIn} : renOut ρ (outs rd wo nw) = outs (renIn ρ rd) (renOut ρ wo) (renIn ρ nw) := by
  simp [renOut, outs, renIn, lift, Function.comp_def]

theorem rho_spec {R : Ren} {id x : Id} (h : R.lookup id = some x) : rho R id = x := by unfold rho; rw [h]; rfl
theorem nameOk.inj {R : Ren} {l : List Id} (h : nameOk R l = true) {i j : Id} (hi : i ∈ l) (hj : j ∈ l) (e : rho R i = rho R j) : i = j := by
  simp only [nameOk, Bool.and_eq_true] at h
  have h1 := List.all_eq_true.1 h.1
  have hi' : ∃ x, R.lookup i = some x := by
    have := h1 i hi
    rw [List.contains_iff_mem, lookup_keys] at this
    exact Option.isSome_iff_exists.1 this
  have hj' : ∃ x, R.lookup j = some x := by
    have := h1 j hj
    rw [List.contains_iff_mem, lookup_keys] at this
    exact Option.isSome_iff_exists.1 this
  obtain ⟨x, hx⟩ := hi'
  obtain ⟨y, hy⟩ := hj'
  rw [rho_spec hx, rho_spec hy] at e
  have h2 := List.all_eq_true.1 (List.all_eq_true.1 h.2 _ (lookup_mem hx)) _ (lookup_mem hy)
  simp only [beq_iff_eq] at h2
  have h3 : (x == y) = true := by simpa using e
  rw [h3] at h2
  simpa using h2

theorem nameOk.look {R : Ren} {l : List Id} (h : nameOk R l = true) {i : Id} (hi : i ∈ l) : R.lookup i = some (rho R i) := by
  simp only [nameOk, Bool.and_eq_true] at h
  have := List.all_eq_true.1 h.1 i hi
  rw [List.contains_iff_mem, lookup_keys] at this
  obtain ⟨x, hx⟩ := Option.isSome_iff_exists.1 this
  rw [hx, rho_spec hx]
theorem nameOk.inv {R : Ren} {l : List Id} (h : nameOk R l = true) {i : Id} (hi : i ∈ l) : inv R (rho R i) = some i := by
  have hl := lookup_mem (nameOk.look h hi)
  simp only [nameOk, Bool.and_eq_true] at h
  unfold Go.Bw.inv
  cases hf : R.find? fun p => p.2 == rho R i with
  | none =>
    have := List.find?_eq_none.1 hf _ hl
    simp at this
  | some p =>
    have h1 := List.mem_of_find?_eq_some hf
    have h2 := List.find?_some hf
    have h3 := List.all_eq_true.1 (List.all_eq_true.1 h.2 _ h1) _ hl
    simp only [beq_iff_eq] at h3
    rw [h2] at h3
    simp only [Option.map_some, Option.some.injEq]
    simpa using h3

/-- The objects of a contract that are changed, and what they are at the caller's. -/
inductive CoObs (Z : MIn) (R : Ren) : MIn → MIn → Prop where
  | nil : CoObs Z R [] []
  | cons {id id0 o o' l l'} : rho R id = id0 → ObX Z [] R o o' → CoObs Z R l l' → CoObs Z R ((id0, o) :: l) ((id, o') :: l')
theorem CoObs.get {Z R} {l l' : MIn} (h : CoObs Z R l l') : ∀ {id : Id} {o' : AObj}, (∀ i ∈ keys l', rho R i = rho R id → i = id) → l'.lookup id = some o' → ∃ o, l.lookup (rho R id) = some o ∧ ObX Z [] R o o' := by
  induction h with
  | nil => intro id o' _ h; simp at h
  | @cons id0 id1 o o0 l l' h0 h1 h2 ih =>
    subst h0
    intro id o' hinj h
    rw [List.lookup_cons] at h
    by_cases e : id = id0
    · subst e
      simp at h
      subst h
      exact ⟨o, by simp, h1⟩
    · have h3 : (id == id0) = false := by simpa using e
      have h4 : (rho R id == rho R id0) = false := by
        simp only [beq_eq_false_iff_ne, ne_eq]
        intro e2
        exact e (hinj id0 (by simp [keys]) e2.symm).symm
      rw [h3] at h
      obtain ⟨x, hx, hc⟩ := ih (fun i hi => hinj i (List.mem_cons_of_mem _ hi)) h
      exact ⟨x, by rw [List.lookup_cons, h4]; exact hx, hc⟩

/-- A contract met at a call: from the arguments' rep to what the operation yields; Z is frozen ahead of it; R names the contract's ids. -/
theorem ACalls.at {P : Program} {G f} {args args' : List AV} {rd wi wi0 : MIn} {wo : MOut} {nw : MIn} {v : AV} {Z : MIn} {R : Ren} (h : ACalls P G f args' rd wi wo nw v)
    (hco : CoXVs Z [] R args args') (hwi : CoObs Z R wi0 wi) (hR : nameOk R (keys (rd ++ wi) ++ keys nw) = true) (hZ : (keys Z).all (fun id => !(R.map (·.2)).contains id) = true) (hk : keys wo = keys wi)
    (hin : AV.inns (keys (rd ++ wi)) args' = true) (hob : mClosed (keys (rd ++ wi)) (lift (rd ++ wi)))
    {φ F w vs} (hs : SimM G φ F (ofIn (renIn (rho R) rd ++ (Z ++ wi0))) w) (hvs : repAVs φ F w args vs) (hnw : ∀ id ∈ keys nw, φ (rho R id) = none) :
    Calls P f vs.toArray w fun e w' => ∃ u, e = .returned u ∧ ∃ φ' F', SimM G φ' F' (ofOut (outs (renIn (rho R) rd) (dead Z ++ renOut (rho R) wo) (renIn (rho R) nw))) w' ∧ repAV φ' F' w' (v.ren (rho R)) u ∧
      Since φ F (ofIn (renIn (rho R) rd ++ (Z ++ wi0))) w φ' F' (ofOut (outs (renIn (rho R) rd) (dead Z ++ renOut (rho R) wo) (renIn (rho R) nw))) w' ∧ ∀ id, id ∉ keys (outs (renIn (rho R) rd) (dead Z ++ renOut (rho R) wo) (renIn (rho R) nw)) → φ' id = φ id := by
  have hall : ∀ id, id ∈ keys (outs rd wo nw) ↔ id ∈ keys (rd ++ wi) ++ keys nw := by
    intro id
    simp only [outs, keys_append, keys_lift, List.mem_append, hk]
    constructor
    · rintro (h | h | h)
      · exact .inr h
      · exact .inl (.inr h)
      · exact .inl (.inl h)
    · rintro ((h | h) | h)
      · exact .inr (.inr h)
      · exact .inr (.inl h)
      · exact .inl h
  have hinjR : ∀ {i j : Id}, i ∈ keys (rd ++ wi) ++ keys nw → j ∈ keys (rd ++ wi) ++ keys nw → rho R i = rho R j → i = j := fun hi hj e => nameOk.inj hR hi hj e
  have hZR : ∀ id, id ∈ keys Z → ∀ i, i ∈ keys (rd ++ wi) ++ keys nw → rho R i ≠ id := by
    intro id hid i hi e
    have h1 := List.all_eq_true.1 hZ id hid
    simp only [Bool.not_eq_true', ← Bool.not_eq_true, List.contains_iff_mem, List.mem_map] at h1
    exact h1 ⟨_, lookup_mem (nameOk.look hR hi), e⟩
  have hm0 : ∀ id o, ofIn (rd ++ wi) id = some o → id ∈ keys (rd ++ wi) := by
    intro id o hid
    rw [lookup_keys]; unfold ofIn at hid; rw [hid]; rfl
  have hmemR : ∀ {id : Id}, id ∈ keys rd → id ∈ keys (rd ++ wi) := fun h => by rw [keys_append]; exact List.mem_append.2 (.inl h)
  have hmemW : ∀ {id : Id}, id ∈ keys wi → id ∈ keys (rd ++ wi) := fun h => by rw [keys_append]; exact List.mem_append.2 (.inr h)
  have hL : ∀ {id : Id}, id ∈ keys (rd ++ wi) → id ∈ keys (rd ++ wi) ++ keys nw := fun h => List.mem_append.2 (.inl h)
  have hzz : ∀ id o, Z.lookup id = some o → ofIn (renIn (rho R) rd ++ (Z ++ wi0)) id = some o := by
    intro id o hl
    have hid : id ∈ keys Z := by rw [lookup_keys, hl]; rfl
    unfold ofIn
    rw [lookup_append, lookup_append]
    have : (renIn (rho R) rd).lookup id = none := by
      rw [lookup_none_keys, keys_renIn, List.mem_map]
      rintro ⟨i, hi, e⟩
      exact hZR id hid i (hL (hmemR hi)) e
    rw [this, hl]; rfl
  obtain ⟨hfz, hsz⟩ := hs.freeze hzz
  have hargs : repAVs (fun id => φ (rho R id)) (frzF φ F Z) w args' vs := hco.rep hs hzz hvs
  -- what an object of the contract is at the caller's
  have hfind : ∀ id o, ofIn (rd ++ wi) id = some o → ∃ o0, ofIn (renIn (rho R) rd ++ (Z ++ wi0)) (rho R id) = some o0 ∧ (o0 = o.ren (rho R) ∨ ObX Z [] R o0 o) ∧ putM (ofIn (renIn (rho R) rd ++ (Z ++ wi0))) (dead Z) (rho R id) = some o0 := by
    intro id o hid
    have hidk := hm0 id o hid
    have hnz : Z.lookup (rho R id) = none := by
      rw [lookup_none_keys]
      intro hz
      exact hZR _ hz id (hL hidk) rfl
    have key : ∃ o0, ofIn (renIn (rho R) rd ++ (Z ++ wi0)) (rho R id) = some o0 ∧ (o0 = o.ren (rho R) ∨ ObX Z [] R o0 o) := by
      unfold ofIn at hid ⊢
      rw [lookup_append] at hid
      rw [lookup_append, lookup_append, hnz]
      rw [lookup_renIn fun i hi e => hinjR (hL (hmemR hi)) (hL hidk) e]
      cases h1 : rd.lookup id with
      | some x =>
        rw [h1] at hid
        simp at hid
        subst hid
        exact ⟨_, rfl, .inl rfl⟩
      | none =>
        rw [h1] at hid
        simp at hid
        obtain ⟨x, hx, hc⟩ := hwi.get (fun i hi e => hinjR (hL (hmemW hi)) (hL hidk) e) hid
        exact ⟨x, by simpa using hx, .inr hc⟩
    obtain ⟨o0, h1, h2⟩ := key
    refine ⟨o0, h1, h2, ?_⟩
    unfold putM
    rw [lookup_dead, hnz]
    exact h1
  have hsub : SimM G (fun id => φ (rho R id)) (frzF φ F Z) (ofIn (rd ++ wi)) w := by
    refine ⟨?_, ?_, ?_, hfz.frz, hfz.amb⟩
    · intro id o hid
      obtain ⟨o0, h1, h2, _⟩ := hfind id o hid
      obtain ⟨r, hr, hor⟩ := hs.obj _ o0 h1
      refine ⟨r, hr, ?_⟩
      rcases h2 with rfl | h2
      · exact objRep_ren.1 (objRep.later later_frz (fun _ _ => rfl) hor)
      · exact h2.rep hs hzz hor
    · rintro b ⟨id, o, r, h1, h2, h3⟩
      obtain ⟨o0, _, _, h4⟩ := hfind id o h1
      exact hfz.live b ⟨_, o0, r, h4, h2, h3⟩
    · intro id1 id2 o1 o2 r1 r2 b h1 h2 h3 h4 h5 h6
      obtain ⟨p1, _, _, k1⟩ := hfind id1 o1 h1
      obtain ⟨p2, _, _, k2⟩ := hfind id2 o2 h2
      exact hinjR (hL (hm0 _ _ h1)) (hL (hm0 _ _ h2)) (hfz.inj _ _ p1 p2 r1 r2 b k1 k2 h3 h4 h5 h6)
  let φr : Id → Option Ref := fun id => if id ∈ keys (rd ++ wi) then φ (rho R id) else none
  have hcl : ∀ id o, ofIn (rd ++ wi) id = some o → id ∈ keys (rd ++ wi) ∧ o.inn (keys (rd ++ wi)) := fun id o hid => hob.get (by rw [ofOut_lift]; exact hid)
  have hr1 : SimM G φr (frzF φ F Z) (ofIn (rd ++ wi)) w := hsub.ids (l := keys (rd ++ wi)) (fun id hid => if_pos hid) hcl
  have hr2 : repAVs φr (frzF φ F Z) w args' vs := repAVs.ids (l := keys (rd ++ wi)) (fun id hid => if_pos hid) _ _ hin hargs
  have hr3 : ∀ id r, φr id = some r → id ∈ keys (rd ++ wi) := by
    intro id r hr
    by_cases hid : id ∈ keys (rd ++ wi)
    · exact hid
    · simp only [φr, if_neg hid] at hr; cases hr
  refine (h w φr _ vs hr1 hr3 hr2).mono ?_
  rintro e w' ⟨u, φ', F', rfl, k1, k2, k3, k4⟩
  let φ2 : Id → Option Ref := fun id => match inv R id with | some c => if c ∈ keys (outs rd wo nw) then φ' c else φ id | none => φ id
  have hφ2 : ∀ c, c ∈ keys (outs rd wo nw) → φ2 (rho R c) = φ' c := by
    intro c hc
    have := nameOk.inv hR ((hall c).1 hc)
    simp only [φ2, this, if_pos hc]
  have hlat : Later φ' F' w' (fun id => φ2 (rho R id)) F' w' := ⟨fun _ h => h, fun _ _ => rfl, fun id r hr => (hφ2 id (k4 id r hr)).trans hr⟩
  have hmk : ∀ id o, ofOut (outs rd wo nw) id = some o → id ∈ keys (outs rd wo nw) := by
    intro id o hid
    rw [lookup_keys]
    unfold ofOut at hid
    cases hl : (outs rd wo nw).lookup id with
    | none => rw [hl] at hid; cases hid
    | some x => rfl
  -- what is there behind the call
  have hback : ∀ id o, ofOut (outs (renIn (rho R) rd) (dead Z ++ renOut (rho R) wo) (renIn (rho R) nw)) id = some o → ∃ c oc, c ∈ keys (outs rd wo nw) ∧ id = rho R c ∧ ofOut (outs rd wo nw) c = some oc ∧ o = oc.ren (rho R) := by
    intro id o hid
    have hid' : ofOut (renOut (rho R) (outs rd wo nw)) id = some o := by
      rw [renOut_outs]
      unfold ofOut outs at hid ⊢
      rw [lookup_append, lookup_append, lookup_append] at hid
      rw [lookup_append, lookup_append]
      cases h1 : (lift (renIn (rho R) nw)).lookup id with
      | some x => rw [h1] at hid; simpa using hid
      | none =>
        rw [h1] at hid
        simp only [Option.none_or] at hid ⊢
        cases h2 : (dead Z).lookup id with
        | none => rw [h2] at hid; simpa using hid
        | some x =>
          rw [h2] at hid
          rw [lookup_dead] at h2
          cases hz : Z.lookup id <;> rw [hz] at h2 <;> simp at h2
          subst h2
          simp at hid
    have hkid : id ∈ (keys (outs rd wo nw)).map (rho R) := by
      rw [← keys_renOut, lookup_keys]
      unfold ofOut at hid'
      cases hl : (renOut (rho R) (outs rd wo nw)).lookup id with
      | none => rw [hl] at hid'; cases hid'
      | some x => rfl
    obtain ⟨c, hc, rfl⟩ := List.mem_map.1 hkid
    unfold ofOut at hid'
    rw [lookup_renOut fun i hi e => hinjR ((hall i).1 hi) ((hall c).1 hc) e] at hid'
    cases hl : (outs rd wo nw).lookup c with
    | none => rw [hl] at hid'; cases hid'
    | some x =>
      rw [hl] at hid'
      cases x with
      | none => simp at hid'
      | some oc =>
        simp at hid'
        exact ⟨c, oc, hc, rfl, by unfold ofOut; rw [hl]; rfl, hid'.symm⟩
  have hlive2 : ∀ b, liveBlk φ2 (ofOut (outs (renIn (rho R) rd) (dead Z ++ renOut (rho R) wo) (renIn (rho R) nw))) b → liveBlk φ' (ofOut (outs rd wo nw)) b := by
    rintro b ⟨id, o, r, m1, m2, m3⟩
    obtain ⟨c, oc, hc, rfl, hoc, _⟩ := hback id o m1
    rw [hφ2 c hc] at m2
    exact ⟨c, oc, r, hoc, m2, m3⟩
  have hlive0 : ∀ b, liveBlk φr (ofIn (rd ++ wi)) b → liveBlk φ (ofIn (renIn (rho R) rd ++ (Z ++ wi0))) b := by
    rintro b ⟨id, o, r, m1, m2, m3⟩
    simp only [φr, if_pos (hm0 id o m1)] at m2
    obtain ⟨o0, h1, _⟩ := hfind id o m1
    exact ⟨_, o0, r, h1, m2, m3⟩
  refine ⟨u, rfl, φ2, F', ⟨?_, fun b hb => k1.live b (hlive2 b hb), ?_, k1.frz, k1.amb⟩, repAV_ren.2 (repAV.later hlat _ _ k2), ⟨k3.os, k3.tape, k3.output, k3.size, ?_, ?_, ?_, ?_, ?_⟩, ?_⟩
  · intro id o hid
    obtain ⟨c, oc, hc, rfl, hoc, rfl⟩ := hback id o hid
    obtain ⟨r, hr, hor⟩ := k1.obj c oc hoc
    exact ⟨r, by rw [hφ2 c hc]; exact hr, objRep_ren.2 (objRep.later hlat (fun _ _ => rfl) hor)⟩
  · intro id1 id2 o1 o2 r1 r2 b m1 m2 m3 m4 m5 m6
    obtain ⟨c1, oc1, hc1, rfl, hoc1, rfl⟩ := hback id1 o1 m1
    obtain ⟨c2, oc2, hc2, rfl, hoc2, rfl⟩ := hback id2 o2 m2
    rw [hφ2 _ hc1] at m3
    rw [hφ2 _ hc2] at m4
    rw [k1.inj c1 c2 oc1 oc2 r1 r2 b hoc1 hoc2 m3 m4 m5 m6]
  · intro b hb hl
    exact k3.keep b hb fun hl2 => hl (hlive0 b hl2)
  · exact fun b hb => k3.frz b (hsz.frz b hb)
  · intro b hb
    rcases k3.frzNew b hb with h1 | h1 | h1
    · exact hsz.frzNew b h1
    · exact .inr (.inl h1)
    · exact .inr (.inr (hlive0 b h1))
  · intro b hb
    rcases k3.live b (hlive2 b hb) with h1 | h1
    · exact .inl h1
    · exact .inr (hlive0 b h1)
  · intro id o hid
    show φ2 id = φ id
    simp only [φ2]
    cases hi : inv R id with
    | none => rfl
    | some c =>
      simp only
      by_cases hc : c ∈ keys (outs rd wo nw)
      · rw [if_pos hc]
        have hidc : rho R c = id := by
          have hc' := (hall c).1 hc
          unfold Go.Bw.inv at hi
          cases hf : R.find? fun p => p.2 == id with
          | none => rw [hf] at hi; cases hi
          | some p =>
            rw [hf] at hi
            simp only [Option.map_some, Option.some.injEq] at hi
            have h1 := List.mem_of_find?_eq_some hf
            have h2 := List.find?_some hf
            have h3 := hR
            simp only [nameOk, Bool.and_eq_true] at h3
            have h4 := List.all_eq_true.1 (List.all_eq_true.1 h3.2 _ h1) _ (lookup_mem (nameOk.look hR hc'))
            simp only [beq_iff_eq] at h4
            have h5 : (p.1 == c) = true := by simpa using hi
            rw [h5] at h4
            have h6 : p.2 = rho R c := by simpa using h4.symm
            rw [← h6]; simpa using h2
        subst hidc
        rcases List.mem_append.1 ((hall c).1 hc) with h1 | h1
        · rcases hoc : ofIn (rd ++ wi) c with _ | oc
          · rw [lookup_keys] at h1
            unfold ofIn at hoc
            rw [hoc] at h1; cases h1
          · rw [k3.ids c oc hoc]
            simp only [φr, if_pos h1]
        · rw [hnw c h1]
          have : φ (rho R c) ≠ none := by
            obtain ⟨r, hr, _⟩ := hs.obj _ o hid
            rw [hr]; simp
          exact (this (hnw c h1)).elim
      · rw [if_neg hc]
  · intro id hid
    simp only [φ2]
    cases hi : inv R id with
    | none => rfl
    | some c =>
      simp only
      by_cases hc : c ∈ keys (outs rd wo nw)
      · exfalso
        apply hid
        have hidc : rho R c = id := by
          have hc' := (hall c).1 hc
          unfold Go.Bw.inv at hi
          cases hf : R.find? fun p => p.2 == id with
          | none => rw [hf] at hi; cases hi
          | some p =>
            rw [hf] at hi
            simp only [Option.map_some, Option.some.injEq] at hi
            have h1 := List.mem_of_find?_eq_some hf
            have h2 := List.find?_some hf
            have h3 := hR
            simp only [nameOk, Bool.and_eq_true] at h3
            have h4 := List.all_eq_true.1 (List.all_eq_true.1 h3.2 _ h1) _ (lookup_mem (nameOk.look hR hc'))
            simp only [beq_iff_eq] at h4
            have h5 : (p.1 == c) = true := by simpa using hi
            rw [h5] at h4
            have h6 : p.2 = rho R c := by simpa using h4.symm
            rw [← h6]; simpa using h2
        rw [← hidc]
        have h1 : rho R c ∈ keys (renOut (rho R) (outs rd wo nw)) := by rw [keys_renOut]; exact List.mem_map.2 ⟨c, hc, rfl⟩
        rw [renOut_outs] at h1
        simp only [outs, keys_append, keys_lift, List.mem_append, keys_dead] at h1 ⊢
        rcases h1 with h1 | h1 | h1
        · exact .inl h1
        · exact .inr (.inl (.inr h1))
        · exact .inr (.inr h1)
      · rw [if_neg hc]

theorem OpS.call {P : Program} {G} {o : Oper} {ae : Operand → Option AV} {f : FuncId} {xs : Array Operand} {ts : Array TypeId} {args args' : List AV} {rd wi wi0 : MIn} {wo : MOut} {nw : MIn} {v : AV} {Z : MIn} {R : Ren}
    (h : ACalls P G f args' rd wi wo nw v) (ho : o.op = .call { callee := .value (.func f), args := xs, argTypes := ts }) (hc : callable P f = true)
    (hargs : evs ae xs.toList = some args) (hco : CoXVs Z [] R args args') (hwi : CoObs Z R wi0 wi) (hR : nameOk R (keys (rd ++ wi) ++ keys nw) = true) (hZ : (keys Z).all (fun id => !(R.map (·.2)).contains id) = true) (hk : keys wo = keys wi)
    (hin : AV.inns (keys (rd ++ wi)) args' = true) (hob : mClosed (keys (rd ++ wi)) (lift (rd ++ wi)))
    (hf : ∀ ρ : Operand → Value, ae (.func f) = some (.one (.d (.raw (.func (.func f) #[] #[]))))) : OpS P G o ae (renIn (rho R) rd) (Z ++ wi0) (dead Z ++ renOut (rho R) wo) (renIn (rho R) nw) (v.ren (rho R)) := by
  intro φ F w ρ hs hop hnw
  have hops : ∀ x ∈ xs.toList, ∀ u, ae x = some u → repAV φ F w u (ρ x) := fun x hx => hop x (by rw [ho]; simp only [Op.operands, Call.operands]; simp; exact .inr (by simpa using hx))
  have hfv : ρ (.func f) = .func (.func f) #[] #[] := by
    have := hop (.func f) (by rw [ho]; simp [Op.operands, Call.operands]) _ (hf ρ)
    simp only [repAV, repC, repD] at this
    exact this.1
  have hargs' := evs_rep hargs hops
  have hrun : (execOp ρ o).run P w = .ok (.enter f (xs.map ρ)) w := by
    unfold execOp
    simp only [ho, resolve, hfv, Deferred.ofValue, Sem.run_bind, Sem.run_pure, Result.andThen_ok, invoke]
    rw [Array.append_empty, Array.empty_append]
    exact run_callFunc hc _ w
  rw [hrun]
  have hx : xs.map ρ = (xs.toList.map ρ).toArray := Array.ext' (by rw [Array.toList_map])
  rw [hx]
  exact h.at hco hwi hR hZ hk hin hob hs hargs' fun id hid => hnw _ (by rw [keys_renIn]; exact List.mem_map.2 ⟨id, hid, rfl⟩)
end Go.Bw
