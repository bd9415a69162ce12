/- Abstract walk over contents given by functions, part 14: the walk of code, worked out. -/
import Derived.Test.YticpndkcicgenaaDoorBw13
set_option linter.unusedVariables false
set_option linter.unusedSimpArgs false
namespace Go.Bw
open Go.RowKit

theorem opA_ok {P : Program} (Xt : Tab P) {G : List (Addr × Value)} {o : Oper} {fr : Fr} {m : MOut} {ids : List Id} {d : Nat} {op : Op} {r : Rc} (h : opA Xt.t P fr m ids d op = some r) (ho : o.op = op) (hs : r.s = true) (ha : Holds r.a) (hb : Holds r.b) : Good P G o (aevL fr) m ids r := by
  unfold opA at h
  split at h
  · split at h
    · rename_i hx; cases h; exact .q (OpS.move ho hx)
    · cases h
  · split at h
    · rename_i hx; cases h; exact .q (OpS.assign ho hx)
    · cases h
  · split at h
    · rename_i hx hy; exact binR_ok Xt h ho hx hy hs ha
    · cases h
  · split at h
    · rename_i hx; exact unR_ok h ho hx ha
    · cases h
  · split at h
    · rename_i hx; exact convR_ok Xt h ho hx hs ha hb
    · cases h
  · exact allocR_ok Xt h ho hs
  · split at h
    · rename_i hx; exact boxR_ok h ho hx hs
    · cases h
  · split at h
    · rename_i hx; exact loadR_ok Xt h ho hx hs ha
    · cases h
  · split at h
    · rename_i hx hy; exact storeR_ok Xt h ho hx hy hs ha
    · cases h
  · split at h
    · rename_i hx; exact nilR_ok h ho hx hs
    · cases h
  · split at h
    · rename_i hx; exact fldAR_ok Xt h ho hx hs
    · cases h
  · split at h
    · rename_i hx hy; exact idxAR_ok Xt h ho hx hy hs ha
    · cases h
  · split at h
    · rename_i hx; exact fldR_ok Xt h ho hx hs
    · cases h
  · split at h
    · rename_i hx hy; exact idxR_ok Xt h ho hx hy hs ha
    · cases h
  · split at h
    · rename_i hx; exact extrR_ok h ho hx hs
    · cases h
  · exact buildR_ok Xt h ho rfl
  · exact buildSlR_ok Xt h ho rfl hs
  · split at h
    · rename_i hx hy; exact mkSlR_ok Xt h ho hx hy hs ha
    · cases h
  · split at h
    · rename_i hx; exact cutR_ok Xt h ho hx rfl hs ha
    · cases h
  · exact mkFnR_ok h ho rfl
  · exact mkMapR_ok h ho hs
  · split at h
    · rename_i hx; exact lenR_ok Xt h ho hx ha
    · cases h
  · split at h
    · rename_i hx hy he; exact appR_ok Xt h ho (Nat.eq_of_beq_eq_true he) hx hy hs ha
    · cases h
  · split at h
    · rename_i hx hy; exact minR_ok h ho hx hy hs
    · cases h
  · split at h
    · rename_i hx hy; exact maxR_ok h ho hx hy hs
    · cases h
  · cases h

/-! ### the evaluator -/
def emit (a : Option Prop) (X : Prop) : Prop := match a with
  | none => X
  | some p => p ∧ X
theorem emit_ok {a : Option Prop} {X : Prop} (h : emit a X) : Holds a ∧ X := by
  cases a with
  | none => exact ⟨trivial, h⟩
  | some p => exact h
/-- One of two, by a test. -/
def bcond (b : Bool) (X Y : Prop) : Prop := match b with
  | true => X
  | false => Y
theorem bcond_T {p : Prop} [Decidable p] {X Y : Prop} (h : p) (k : X) : bcond (sb p) X Y := by
  unfold sb; rw [decide_eq_true h]; exact k
theorem bcond_F {p : Prop} [Decidable p] {X Y : Prop} (h : ¬ p) (k : Y) : bcond (sb p) X Y := by
  unfold sb; rw [decide_eq_false h]; exact k
theorem bcond_s {p : Prop} [Decidable p] {X Y : Prop} (h : p → X) (k : ¬ p → Y) : bcond (sb p) X Y := by
  by_cases hp : p
  · exact bcond_T hp (h hp)
  · exact bcond_F hp (k hp)
theorem bcond_b {b : Bool} {X Y : Prop} (h : b = true → X) (k : b = false → Y) : bcond b X Y := by
  cases b with
  | true => exact h rfl
  | false => exact k rfl
theorem bcond_not {b : Bool} {X Y : Prop} (h : bcond b Y X) : bcond (!b) X Y := by cases b <;> exact h
theorem bcond_ble {a b : Nat} {X Y : Prop} (h : a ≤ b) (k : X) : bcond (Nat.ble a b) X Y := by
  rw [Nat.ble_eq_true_of_le h]; exact k
theorem bcond_eq {b : Bool} {X Y : Prop} (h : b = true) (k : X) : bcond b X Y := by rw [h]; exact k
theorem bcond_ne {b : Bool} {X Y : Prop} (h : b = false) (k : Y) : bcond b X Y := by rw [h]; exact k
theorem bcond_ok {b : Bool} {X : Prop} (h : bcond b X False) : b = true ∧ X := by
  cases b with
  | true => exact ⟨rfl, h⟩
  | false => exact h.elim
/-- Memory behind an operation. -/
def withM (nw : MIn) (wo m : MOut) (ids : List Id) (K : MOut → List Id → Prop) : Prop :=
  match nw, wo with
  | [], [] => K m ids
  | [(i, ob)], [] => K ((i, some ob) :: m) (i :: ids)
  | [], [(i, o)] => K ((i, o) :: m) ids
  | [(i, ob)], [(j, o)] => K ((i, some ob) :: (j, o) :: m) (i :: ids)
  | nw, wo => K (lift nw ++ (wo ++ m)) (keys nw ++ ids)
theorem withM_eq {nw : MIn} {wo m : MOut} {ids : List Id} {K : MOut → List Id → Prop} (h : withM nw wo m ids K) : K (lift nw ++ (wo ++ m)) (keys nw ++ ids) := by
  unfold withM at h
  split at h <;> exact h
def withV (v : AV) (K : AV → Prop) : Prop := match v with
  | .one c => K (.one c)
  | .agg k g => K (.agg k g)
  | .tup n g => K (.tup n g)
theorem withV_eq {v : AV} {K : AV → Prop} (h : withV v K) : K v := by cases v <;> exact h
def updF (d : Option Tmp) (v : AV) (fr : Fr) : Fr := match d with | some d => (d, v) :: fr | none => fr
abbrev Kt := RecD → Fr → MOut → List Id → Prop
/-- What is done with a record. -/
def putRec (N : Nat) (d : Option Tmp) (x : RecD) (fr : Fr) (m : MOut) (ids : List Id) (K : Kt) : Prop :=
  withM x.nw x.wo m ids fun m' ids' => withV x.v fun v => match d with
    | some d => bcond (Nat.blt d N) (K x ((d, v) :: fr) m' ids') False
    | none => K x fr m' ids'
/-- An operation that is for the reader to say. -/
def OpX (E : Env) (ops : List Oper) (o : Oper) (fr : Fr) (m : MOut) (ids : List Id) (K : Kt) : Prop :=
  ∃ x : RecD, (x.on = true ∧ (OpS E.P E.G o (aev fr) x.rd x.wi x.wo x.nw x.v ∧ Sub x.rd m ∧ Sub x.wi m ∧ keys x.wo = keys x.wi ∧ fresh ids x.nw = true) ∧
    (∀ j id ob2, x.sf = some (j, id, ob2) → keys x.rd = [id] ∧ x.wi = [] ∧ x.wo = [] ∧ x.nw = [] ∧ OpS E.P E.G o (aev fr) [(id, ob2)] [] [] [] x.v)) ∧ putRec E.N o.dst x fr m ids K
def apOne (E : Env) (t : Tr) (ops : List Oper) (o : Oper) (fr : Fr) (m : MOut) (ids : List Id) (K : Kt) : Prop :=
  match o.op with
  | .pick x y z => match aevL fr x with
    | some (.one (.d (.raw (.bool b)))) => bcond b
      (match aevL fr y with | some v => putRec E.N o.dst ⟨[], [], [], [], v, true, none⟩ fr m ids K | none => False)
      (match aevL fr z with | some v => putRec E.N o.dst ⟨[], [], [], [], v, true, none⟩ fr m ids K | none => False)
    | _ => False
  | op => match opA t E.P fr m ids (o.dst.getD 0) op with
    | some ⟨s, a, b, rd, wi, wo, nw, v⟩ => bcond s (emit a (emit b (putRec E.N o.dst ⟨rd, wi, wo, nw, v, true, none⟩ fr m ids K))) False
    | none => OpX E ops o fr m ids K
def skipRec : RecD := ⟨[], [], [], [], .tup 0 (fun _ => junkA), false, none⟩
def pushT (dr : Bool) (x : RecD) (tr : List RecD) : List RecD := match dr with
  | true => x :: tr
  | false => tr
def dstAt (ops : List Oper) (j : Nat) : Option Tmp := match nthO ops j with
  | some o => o.dst
  | none => none
def DrawOk (ops : List Oper) (tr : List RecD) : Prop := orderOk ops tr.reverse = true ∧ SoftAll tr.reverse (softs tr.reverse)
theorem draw_ok {ops : List Oper} {tr : List RecD} (h : orderOk ops tr.reverse = true) (h2 : softs tr.reverse = []) : DrawOk ops tr := ⟨h, by rw [h2]; trivial⟩
def apOps (E : Env) (t : Tr) (ops : List Oper) (dr : Bool) (K : Fr → MOut → List Id → Prop) : List Oper → List RecD → Fr → MOut → List Id → Prop
  | [], tr, fr, m, ids => match dr with
    | true => DrawOk ops tr ∧ K fr m ids
    | false => K fr m ids
  | o :: rest, tr, fr, m, ids => match o.guard with
    | none => apOne E t ops o fr m ids fun x fr' m' ids' => apOps E t ops dr K rest (pushT dr x tr) fr' m' ids'
    | some (j, want) => match dstAt ops j with
      | some e => match look e fr with
        | some (.one (.d (.raw (.bool b)))) => match want with
          | true => bcond b (apOne E t ops o fr m ids fun x fr' m' ids' => apOps E t ops dr K rest (pushT dr x tr) fr' m' ids') (putRec E.N o.dst skipRec fr m ids fun x fr' m' ids' => apOps E t ops dr K rest (pushT dr x tr) fr' m' ids')
          | false => bcond b (putRec E.N o.dst skipRec fr m ids fun x fr' m' ids' => apOps E t ops dr K rest (pushT dr x tr) fr' m' ids') (apOne E t ops o fr m ids fun x fr' m' ids' => apOps E t ops dr K rest (pushT dr x tr) fr' m' ids')
        | _ => False
      | none => False

theorem putRec_ok {N : Nat} {d : Option Tmp} {x : RecD} {fr : Fr} {m : MOut} {ids : List Id} {K : Kt} (h : putRec N d x fr m ids K) : dstOk d N = true ∧ K x (updF d x.v fr) (lift x.nw ++ (x.wo ++ m)) (keys x.nw ++ ids) := by
  unfold putRec at h
  have h := withV_eq (withM_eq h)
  cases d with
  | none => exact ⟨rfl, h⟩
  | some d =>
    obtain ⟨h1, h2⟩ := bcond_ok h
    have : d.succ ≤ N := Nat.le_of_ble_eq_true h1
    exact ⟨decide_eq_true (show d < N from this), h2⟩
theorem aev_fun {fr : Fr} : aevL fr = aev fr := funext fun x => aevL_eq
theorem apOne_ok {E : Env} (Xt : Tab E.P) {ops : List Oper} {o : Oper} {fr : Fr} {m : MOut} {ids : List Id} {K : Kt} (h : apOne E Xt.t ops o fr m ids K) (hg : guardOk ops o fr true) :
    ∃ x : RecD, Okay E ops o ⟨fr, m, ids⟩ x ∧ K x (updF o.dst x.v fr) (lift x.nw ++ (x.wo ++ m)) (keys x.nw ++ ids) := by
  have mk : ∀ {rd wi : MIn} {wo : MOut} {nw : MIn} {v : AV}, OpS E.P E.G o (aev fr) rd wi wo nw v → Sub rd m → Sub wi m → keys wo = keys wi → fresh ids nw = true → putRec E.N o.dst ⟨rd, wi, wo, nw, v, true, none⟩ fr m ids K → ∃ x : RecD, Okay E ops o ⟨fr, m, ids⟩ x ∧ K x (updF o.dst x.v fr) (lift x.nw ++ (x.wo ++ m)) (keys x.nw ++ ids) := by
    intro rd wi wo nw v h1 h2 h3 h4 h5 h6
    obtain ⟨h7, h8⟩ := putRec_ok h6
    exact ⟨_, ⟨hg, h7, fun _ => ⟨h1, h2, h3, h4, h5⟩, (fun h => by cases h), fun _ _ _ h => by cases h⟩, h8⟩
  unfold apOne at h
  split at h
  · rename_i x y z hop
    split at h
    · rename_i b hx
      rw [aevL_eq] at hx
      cases b with
      | true =>
        simp only [bcond] at h
        split at h
        · rename_i v hy
          rw [aevL_eq] at hy
          exact mk (OpS.pickB (v1 := v) (v2 := v) hop hx (fun _ => hy) (fun h => by cases h)) trivial trivial rfl rfl h
        · exact h.elim
      | false =>
        simp only [bcond] at h
        split at h
        · rename_i v hz
          rw [aevL_eq] at hz
          exact mk (OpS.pickB (v1 := v) (v2 := v) hop hx (fun h => by cases h) (fun _ => hz)) trivial trivial rfl rfl h
        · exact h.elim
    · exact h.elim
  · split at h
    · rename_i s a b rd wi wo nw v hr
      obtain ⟨hs, h⟩ := bcond_ok h
      obtain ⟨ha, h⟩ := emit_ok h
      obtain ⟨hb, h⟩ := emit_ok h
      obtain ⟨g1, g2, g3, g4, g5⟩ := opA_ok Xt (G := E.G) (o := o) hr rfl hs ha hb
      rw [aev_fun] at g1
      exact mk g1 g2 g3 g4 g5 h
    · obtain ⟨x, ⟨hon, h1, h2⟩, h⟩ := h
      obtain ⟨h7, h8⟩ := putRec_ok h
      exact ⟨x, ⟨by rw [hon]; exact hg, h7, fun _ => h1, (fun h => by rw [hon] at h; cases h), h2⟩, h8⟩
theorem upd_eqF {S : St} {d : Option Tmp} {wo : MOut} {nw : MIn} {v : AV} : S.upd d wo nw v = ⟨updF d v S.fr, lift nw ++ (wo ++ S.m), keys nw ++ S.ids⟩ := by
  cases d <;> rfl
theorem apOps_ok {E : Env} (Xt : Tab E.P) {ops : List Oper} {dr : Bool} {K : Fr → MOut → List Id → Prop} : ∀ {rest : List Oper} {tr : List RecD} {fr : Fr} {m : MOut} {ids : List Id}, apOps E Xt.t ops dr K rest tr fr m ids → ∀ trF, (dr = true → trF = tr.reverse) →
    ALex E ops rest trF ⟨fr, m, ids⟩ (fun tr' S' => (dr = true → orderOk ops tr' = true ∧ SoftAll tr' (softs tr')) ∧ K S'.fr S'.m S'.ids)
  | [], tr, fr, m, ids, h, trF, ht => by
    unfold apOps at h
    cases dr with
    | true => rw [ht rfl]; exact ⟨fun _ => h.1, h.2⟩
    | false => exact ⟨(fun h => by cases h), h⟩
  | o :: rest, tr, fr, m, ids, h, trF, ht => by
    have go : ∀ x : RecD, Okay E ops o ⟨fr, m, ids⟩ x → apOps E Xt.t ops dr K rest (pushT dr x tr) (updF o.dst x.v fr) (lift x.nw ++ (x.wo ++ m)) (keys x.nw ++ ids) →
        ALex E ops (o :: rest) trF ⟨fr, m, ids⟩ (fun tr' S' => (dr = true → orderOk ops tr' = true ∧ SoftAll tr' (softs tr')) ∧ K S'.fr S'.m S'.ids) := by
      intro x hx hk
      refine ⟨x, hx, ?_⟩
      rw [upd_eqF]
      refine apOps_ok Xt hk _ ?_
      intro hdr
      subst hdr
      rw [ht rfl]
      simp [pushT]
    have skip : ∀ {b want : Bool} {j e : Nat}, o.guard = some (j, want) → dstAt ops j = some e → look e fr = some (.one (.d (.raw (.bool b)))) → (b == want) = false → putRec E.N o.dst skipRec fr m ids (fun x fr' m' ids' => apOps E Xt.t ops dr K rest (pushT dr x tr) fr' m' ids') →
        ALex E ops (o :: rest) trF ⟨fr, m, ids⟩ (fun tr' S' => (dr = true → orderOk ops tr' = true ∧ SoftAll tr' (softs tr')) ∧ K S'.fr S'.m S'.ids) := by
      intro b want j e hg he hl hbw hp
      obtain ⟨h7, h8⟩ := putRec_ok hp
      refine go skipRec ⟨?_, h7, (fun h => by cases h), (fun _ => ⟨rfl, rfl, rfl, rfl, rfl⟩), fun _ _ _ h => by cases h⟩ h8
      unfold guardOk
      rw [hg]
      refine ⟨e, b, ?_, by rw [← look_eq]; exact hl, hbw.symm⟩
      unfold dstAt at he
      rw [nthO_eq] at he
      cases ho : ops[j]? with
      | none => rw [ho] at he; cases he
      | some o' => rw [ho] at he; exact he
    have on : ∀ {b want : Bool} {j e : Nat}, o.guard = some (j, want) → dstAt ops j = some e → look e fr = some (.one (.d (.raw (.bool b)))) → (b == want) = true → guardOk ops o fr true := by
      intro b want j e hg he hl hbw
      unfold guardOk
      rw [hg]
      refine ⟨e, b, ?_, by rw [← look_eq]; exact hl, hbw.symm⟩
      unfold dstAt at he
      rw [nthO_eq] at he
      cases ho : ops[j]? with
      | none => rw [ho] at he; cases he
      | some o' => rw [ho] at he; exact he
    unfold apOps at h
    split at h
    · rename_i hg
      obtain ⟨x, h1, h2⟩ := apOne_ok Xt h (by unfold guardOk; rw [hg])
      exact go x h1 h2
    · rename_i j want hg
      split at h
      · rename_i e he
        split at h
        · rename_i b hl
          split at h
          · cases b with
            | true =>
              obtain ⟨x, h1, h2⟩ := apOne_ok Xt h (on hg he hl rfl)
              exact go x h1 h2
            | false => exact skip hg he hl rfl h
          · cases b with
            | true => exact skip hg he hl rfl h
            | false =>
              obtain ⟨x, h1, h2⟩ := apOne_ok Xt h (on hg he hl rfl)
              exact go x h1 h2
        · exact h.elim
      · exact h.elim

/-! ### code -/
abbrev Kc := Exit → Fr → MOut → List Id → Prop
def qof (K : Kc) : Exit → St → Prop := fun e S => K e S.fr S.m S.ids
/-- Code that is still to be walked. -/
def CodeW (E : Env) (c : Code) (K : Kc) (fr : Fr) (m : MOut) (ids : List Id) : Prop := AWP E c (qof K) ⟨fr, m, ids⟩
/-- A loop that is still to be walked. -/
def LoopW (E : Env) (c : Code) (K : Kc) (fr : Fr) (m : MOut) (ids : List Id) : Prop := AWP E (.loop c) (qof K) ⟨fr, m, ids⟩
/-- Two ways. -/
def condS (E : Env) (b : Bool) (x y : Code) (K : Kc) (fr : Fr) (m : MOut) (ids : List Id) : Prop := match b with
  | true => CodeW E x K fr m ids
  | false => CodeW E y K fr m ids
def apC (E : Env) (t : Tr) : Code → Kc → Fr → MOut → List Id → Prop
  | .skip, K, fr, m, ids => K .normal fr m ids
  | .ret, K, fr, m, ids => K .ret fr m ids
  | .exit i, K, fr, m, ids => K (.exit i) fr m ids
  | .label _, K, fr, m, ids => K .normal fr m ids
  | .seq x y, K, fr, m, ids => apC E t x (fun e fr m ids => match e with
    | .normal => apC E t y K fr m ids
    | .ret => K .ret fr m ids
    | .exit i => K (.exit i) fr m ids
    | e => K e fr m ids) fr m ids
  | .block i c, K, fr, m, ids => apC E t c (fun e fr m ids => match e with
    | .exit j => bcond (Nat.beq j i) (K .normal fr m ids) (K (.exit j) fr m ids)
    | .normal => K .normal fr m ids
    | .ret => K .ret fr m ids
    | e => K e fr m ids) fr m ids
  | .cond c x y, K, fr, m, ids => match aevL fr c with
    | some (.one (.d (.raw (.bool b)))) => condS E b x y K fr m ids
    | _ => False
  | .region _ ⟨ops⟩ dr, K, fr, m, ids => apOps E t ops dr (K .normal) ops [] fr m ids
  | .loop c, K, fr, m, ids => LoopW E c K fr m ids
  | _, _, _, _, _ => False

theorem ap_sound {E : Env} (Xt : Tab E.P) : ∀ {c : Code} {K : Kc} {fr : Fr} {m : MOut} {ids : List Id}, apC E Xt.t c K fr m ids → AWP E c (qof K) ⟨fr, m, ids⟩
  | .skip, K, fr, m, ids, h => awp_skip h
  | .ret, K, fr, m, ids, h => awp_ret h
  | .exit i, K, fr, m, ids, h => awp_exit h
  | .label l, K, fr, m, ids, h => awp_label h
  | .seq x y, K, fr, m, ids, h => by
    refine awp_seq (awp_mono (ap_sound Xt (c := x) h) ?_)
    intro e S hS
    cases e with
    | normal => exact ap_sound Xt (c := y) hS
    | _ => exact hS
  | .block i c, K, fr, m, ids, h => by
    refine awp_block (awp_mono (ap_sound Xt (c := c) h) ?_)
    intro e S hS
    cases e with
    | exit j =>
      simp only [qof] at hS
      simp only [blkA]
      cases hb : Nat.beq j i with
      | true =>
        rw [hb] at hS
        rw [if_pos (Nat.eq_of_beq_eq_true hb)]; exact hS
      | false =>
        rw [hb] at hS
        rw [if_neg (fun e => by subst e; simp [Nat.beq_refl] at hb)]; exact hS
    | _ => exact hS
  | .cond c x y, K, fr, m, ids, h => by
    unfold apC at h
    split at h
    · rename_i b hc
      rw [aevL_eq] at hc
      refine awp_cond hc (fun hb => ?_) (fun hb => ?_)
      · subst hb; exact h
      · subst hb; exact h
    · exact h.elim
  | .region i ⟨ops⟩ dr, K, fr, m, ids, h => by
    have h1 := apOps_ok Xt (rest := ops) h [] (fun _ => rfl)
    cases dr with
    | true => exact awp_drawS (ALex.mono h1 fun tr S hS => ⟨(hS.1 rfl).1, (hS.1 rfl).2, hS.2⟩)
    | false => exact awp_region (ALex.mono h1 fun tr S hS => hS.2)
  | .loop c, K, fr, m, ids, h => h
theorem code_iff {E : Env} {c : Code} {K : Kc} {fr : Fr} {m : MOut} {ids : List Id} : CodeW E c K fr m ids = AWP E c (qof K) ⟨fr, m, ids⟩ := rfl
theorem loop_iff {E : Env} {c : Code} {K : Kc} {fr : Fr} {m : MOut} {ids : List Id} : LoopW E c K fr m ids = AWP E (.loop c) (qof K) ⟨fr, m, ids⟩ := rfl
theorem opx_mk {E : Env} {ops : List Oper} {o : Oper} {fr : Fr} {m : MOut} {ids : List Id} {K : Kt} (x : RecD) (h : x.on = true ∧ (OpS E.P E.G o (aev fr) x.rd x.wi x.wo x.nw x.v ∧ Sub x.rd m ∧ Sub x.wi m ∧ keys x.wo = keys x.wi ∧ fresh ids x.nw = true) ∧
    (∀ j id ob2, x.sf = some (j, id, ob2) → keys x.rd = [id] ∧ x.wi = [] ∧ x.wo = [] ∧ x.nw = [] ∧ OpS E.P E.G o (aev fr) [(id, ob2)] [] [] [] x.v)) (k : putRec E.N o.dst x fr m ids K) : OpX E ops o fr m ids K := ⟨x, h, k⟩
attribute [irreducible] CodeW LoopW OpX DrawOk
end Go.Bw
