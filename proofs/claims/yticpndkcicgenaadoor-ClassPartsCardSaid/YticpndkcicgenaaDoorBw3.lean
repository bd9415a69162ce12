/- Abstract walk over contents given by functions, part 3: operations and regions in the text's order; calls. -/
import Derived.Test.YticpndkcicgenaaDoorBw2
set_option linter.unusedVariables false
set_option linter.unusedSimpArgs false
namespace Go.Bw
open Go.RowKit

def Yield (P : Program) (r : Result Next) (K : Value → World → Prop) : Prop :=
  match r with
  | .ok (.value v) w' => K v w'
  | .ok .skip w' => K undef w'
  | .ok (.enter f args) w' => Calls P f args w' (fun e w'' => ∃ v, e = .returned v ∧ K v w'')
  | _ => False

theorem Yield.mono {P r} {K K' : Value → World → Prop} (h : Yield P r K) (hk : ∀ v w, K v w → K' v w) : Yield P r K' := by
  unfold Yield at *
  split at h
  · exact hk _ _ h
  · exact hk _ _ h
  · exact h.mono fun e w ⟨v, h1, h2⟩ => ⟨v, h1, hk _ _ h2⟩
  · exact h.elim

theorem Yield.upon {P r} {K : Value → World → Prop} {o : Oper} {a : Act} {next : Act → World → Prop} {Q : Exit → Act → World → Prop} (h : Yield P r K) (hk : ∀ v w, K v w → next (a.put o.dst v) w) : o.upon P a next Q r := by
  unfold Yield at h
  split at h
  · exact hk _ _ h
  · exact hk _ _ h
  · refine h.mono ?_
    rintro e w ⟨v, rfl, h2⟩
    exact hk _ _ h2
  · exact h.elim

def lift (l : MIn) : MOut := l.map (fun p => (p.1, some p.2))
theorem lookup_lift (l : MIn) (id : Id) : (lift l).lookup id = (l.lookup id).map some := by
  induction l with
  | nil => rfl
  | cons p l ih =>
    obtain ⟨i, o⟩ := p
    simp only [lift, List.map_cons, List.lookup_cons]
    cases hb : (id == i) with
    | true => rfl
    | false => exact ih
theorem keys_lift (l : MIn) : keys (lift l) = keys l := by simp [keys, lift, Function.comp_def]
theorem ofOut_lift (l : MIn) : ofOut (lift l) = ofIn l := by
  funext id; simp only [ofOut, ofIn, lookup_lift]; cases l.lookup id <;> rfl
theorem keys_append {α : Type} (a b : List (Id × α)) : keys (a ++ b) = keys a ++ keys b := by simp [keys]
theorem lookup_append {α : Type} (a b : List (Id × α)) (id : Id) : (a ++ b).lookup id = (a.lookup id).or (b.lookup id) := List.lookup_append

def outs (rd : MIn) (wo : MOut) (nw : MIn) : MOut := lift nw ++ (wo ++ lift rd)

/-- What an operation does: 'rd' it reads, 'wi' becomes 'wo', 'nw' is new, 'v' is what it yields. -/
def OpS (P : Program) (G : List (Addr × Value)) (o : Oper) (ae : Operand → Option AV) (rd wi : MIn) (wo : MOut) (nw : MIn) (v : AV) : Prop :=
  ∀ φ F w (ρ : Operand → Value), SimM G φ F (ofIn (rd ++ wi)) w → (∀ x ∈ o.op.operands.toList, ∀ u, ae x = some u → repAV φ F w u (ρ x)) → (∀ id ∈ keys nw, φ id = none) →
    Yield P ((execOp ρ o).run P w) fun u w' => ∃ φ' F', SimM G φ' F' (ofOut (outs rd wo nw)) w' ∧ repAV φ' F' w' v u ∧
      Since φ F (ofIn (rd ++ wi)) w φ' F' (ofOut (outs rd wo nw)) w' ∧ ∀ id, id ∉ keys (outs rd wo nw) → φ' id = φ id

/-- It only reads. -/
theorem OpS.quiet {P G o ae rd v} (h : ∀ φ F w (ρ : Operand → Value), SimM G φ F (ofIn rd) w → (∀ x ∈ o.op.operands.toList, ∀ u, ae x = some u → repAV φ F w u (ρ x)) →
    ∃ u, (execOp ρ o).run P w = .ok (.value u) w ∧ repAV φ F w v u) : OpS P G o ae rd [] [] [] v := by
  intro φ F w ρ hs ho hn
  simp only [List.append_nil] at hs
  obtain ⟨u, hr, hv⟩ := h φ F w ρ hs ho
  rw [hr]
  have hm : ofOut (outs rd [] []) = ofIn rd := by
    have : outs rd [] [] = lift rd := by simp [outs, lift]
    rw [this, ofOut_lift]
  exact ⟨φ, F, by rw [hm]; exact hs, hv, by rw [hm, List.append_nil]; exact Since.refl _ _ _ _, fun _ _ => rfl⟩

def Sub : MIn → MOut → Prop
  | [], _ => True
  | p :: r, m => ofOut m p.1 = some p.2 ∧ Sub r m
theorem Sub.get {m : MOut} : ∀ {l : MIn}, Sub l m → ∀ {id o}, l.lookup id = some o → ofOut m id = some o
  | [], _, id, o, h => by simp at h
  | (i, x) :: l, hs, id, o, h => by
    rw [List.lookup_cons] at h
    cases hb : (id == i) with
    | true =>
      rw [hb] at h
      have : id = i := by simpa using hb
      subst this
      cases h
      exact hs.1
    | false => rw [hb] at h; exact Sub.get hs.2 h

def fresh (ids : List Id) (nw : MIn) : Bool := (keys nw).all fun id => !ids.contains id
def dstOk (d : Option Tmp) (n : Nat) : Bool := match d with | some t => decide (t < n) | none => true

def St.upd (S : St) (dst : Option Tmp) (wo : MOut) (nw : MIn) (v : AV) : St :=
  ⟨match dst with | some d => (d, v) :: S.fr | none => S.fr, lift nw ++ (wo ++ S.m), keys nw ++ S.ids⟩

theorem Act.put_size (a : Act) (d : Option Tmp) (v : Value) : (a.put d v).tmps.size = a.tmps.size := by cases d <;> simp [Act.put]
theorem Act.put_defers (a : Act) (d : Option Tmp) (v : Value) : (a.put d v).defers = a.defers := by cases d <;> simp [Act.put]
theorem Act.put_getD (a : Act) (t d : Tmp) (v : Value) (hd : d < a.tmps.size) : (a.put (some d) v).tmps.getD t undef = if t = d then v else a.tmps.getD t undef := by
  simp only [Act.put, Array.getD_eq_getD_getElem?, Array.getElem?_setIfInBounds]
  by_cases h : d = t
  · subst h; simp [hd]
  · rw [if_neg h, if_neg (fun e => h e.symm)]

structure SimR (E : Env) (frf : Nat → Option AV) (mf : Mem) (ids : List Id) (a : Act) (w : World) (φ : Id → Option Ref) (F : Nat → Prop) : Prop where
  defers : a.defers = []
  size : a.tmps.size = E.N
  slots : ∀ t v, frf t = some v → t < E.N ∧ repAV φ F w v (a.tmps.getD t undef)
  mem : SimM E.G φ F mf w
  dom : ∀ id r, φ id = some r → id ∈ ids
  root : ∀ id o, E.m0 id = some o → ∃ r, φ id = some r
  since : Since E.φ0 E.F0 E.m0 E.w0 φ F mf w

theorem Sub.lookup_isSome {l : MIn} {id : Id} (h : id ∈ keys l) : ∃ o, l.lookup id = some o := by
  rw [lookup_keys] at h
  exact Option.isSome_iff_exists.1 h

/-- One operation, in a state given by functions. -/
theorem SimR.op {E : Env} {frf mf ids a w φ F} (hs : SimR E frf mf ids a w φ F) {o : Oper} {ae : Operand → Option AV} {rd wi : MIn} {wo : MOut} {nw : MIn} {v : AV} {ids' : List Id}
    (hae : ∀ x ∈ o.op.operands.toList, ∀ u, ae x = some u → repAV φ F w u (a.eval x))
    (hop : OpS E.P E.G o ae rd wi wo nw v) (hrd : ∀ id ob, rd.lookup id = some ob → mf id = some ob) (hwi : ∀ id ob, wi.lookup id = some ob → mf id = some ob)
    (hk : keys wo = keys wi) (hnw : ∀ id ∈ keys nw, φ id = none) (hd : dstOk o.dst E.N = true) (hids : ∀ id, id ∈ ids ∨ id ∈ keys nw → id ∈ ids')
    {frf' : Nat → Option AV} {mf' : Mem} (hfr : ∀ t u, frf' t = some u → (o.dst = some t ∧ u = v) ∨ (o.dst ≠ some t ∧ frf t = some u))
    (hmf : ∀ id, mf' id = putM mf (outs rd wo nw) id) {K : Act → World → Prop} {Q : Exit → Act → World → Prop}
    (hK : ∀ a' w' φ' F', SimR E frf' mf' ids' a' w' φ' F' → Later φ F w φ' F' w' → (∀ id, id ∉ keys nw → φ id = none → φ' id = none) → K a' w') : o.wp E.P a w K Q := by
  have hin : ∀ id ob, ofIn (rd ++ wi) id = some ob → mf id = some ob := by
    intro id ob h
    unfold ofIn at h
    rw [lookup_append] at h
    cases hl : rd.lookup id with
    | some x => rw [hl] at h; simp at h; subst h; exact hrd id x hl
    | none => rw [hl] at h; simp at h; exact hwi id ob h
  have hsub := hs.mem.sub hin
  have hy := hop φ F w a.eval hsub hae hnw
  unfold Oper.wp
  refine hy.upon ?_
  rintro u w' ⟨φ', F', h1, h2, h3, h4⟩
  have hkeys : ∀ id, id ∈ keys (rd ++ wi) → id ∈ keys (outs rd wo nw) := by
    intro id h
    simp only [outs, keys_append, keys_lift, List.mem_append, hk] at h ⊢
    rcases h with h | h
    · exact .inr (.inr h)
    · exact .inr (.inl h)
  have hnewk : ∀ id, id ∈ keys (outs rd wo nw) → id ∈ keys (rd ++ wi) ∨ φ id = none := by
    intro id h
    simp only [outs, keys_append, keys_lift, List.mem_append, hk] at h ⊢
    rcases h with h | h | h
    · exact .inr (hnw id h)
    · exact .inl (.inr h)
    · exact .inl (.inl h)
  obtain ⟨g1, g2, g3⟩ := hs.mem.frame hin hkeys hnewk h1 h3 h4
  have hmf' : mf' = putM mf (outs rd wo nw) := funext hmf
  refine hK _ _ φ' F' ⟨by rw [Act.put_defers]; exact hs.defers, by rw [Act.put_size]; exact hs.size, ?_, by rw [hmf']; exact g1, ?_, ?_, ?_⟩ g2 ?_
  · intro t x hx
    rcases hfr t x hx with ⟨hdst, rfl⟩ | ⟨hdst, hx'⟩
    · have hlt : t < E.N := by rw [hdst] at hd; simpa [dstOk] using hd
      refine ⟨hlt, ?_⟩
      rw [hdst, Act.put_getD _ _ _ _ (by rw [hs.size]; exact hlt), if_pos rfl]
      exact h2
    · obtain ⟨hlt, hr⟩ := hs.slots t x hx'
      refine ⟨hlt, ?_⟩
      cases hdd : o.dst with
      | none => exact repAV.later g2 _ _ hr
      | some d =>
        have hdlt : d < E.N := by rw [hdd] at hd; simpa [dstOk] using hd
        rw [Act.put_getD _ _ _ _ (by rw [hs.size]; exact hdlt), if_neg (fun e => hdst (by rw [hdd, e]))]
        exact repAV.later g2 _ _ hr
  · intro id r hr
    apply hids
    by_cases hid : id ∈ keys (outs rd wo nw)
    · simp only [outs, keys_append, keys_lift, List.mem_append, hk] at hid
      rcases hid with h | h | h
      · exact .inr h
      · obtain ⟨ob, hob⟩ := Sub.lookup_isSome h
        obtain ⟨r', hr', _⟩ := hs.mem.obj id ob (hwi id ob hob)
        exact .inl (hs.dom id r' hr')
      · obtain ⟨ob, hob⟩ := Sub.lookup_isSome h
        obtain ⟨r', hr', _⟩ := hs.mem.obj id ob (hrd id ob hob)
        exact .inl (hs.dom id r' hr')
    · rw [h4 id hid] at hr; exact .inl (hs.dom id r hr)
  · intro id ob hob
    obtain ⟨r, hr⟩ := hs.root id ob hob
    exact ⟨r, g2.ref id r hr⟩
  · rw [hmf']
    refine hs.since.trans g3 ?_
    intro id ob hob
    obtain ⟨r, hr⟩ := hs.root id ob hob
    rw [g2.ref id r hr, hr]
  · intro id hid hnone
    by_cases h : id ∈ keys (outs rd wo nw)
    · exfalso
      simp only [outs, keys_append, keys_lift, List.mem_append, hk] at h
      rcases h with h | h | h
      · exact hid h
      · obtain ⟨ob, hob⟩ := Sub.lookup_isSome h
        obtain ⟨r', hr', _⟩ := hs.mem.obj id ob (hwi id ob hob)
        rw [hnone] at hr'; cases hr'
      · obtain ⟨ob, hob⟩ := Sub.lookup_isSome h
        obtain ⟨r', hr', _⟩ := hs.mem.obj id ob (hrd id ob hob)
        rw [hnone] at hr'; cases hr'
    · rw [h4 id h]; exact hnone

/-- The record of an operation that was met. -/
structure RecD where
  rd : MIn
  wi : MIn
  wo : MOut
  nw : MIn
  v : AV
  on : Bool
  /-- (j, id, ob): reads one object only, and finds the same once operation j has made ob of it -/
  sf : Option (Nat × Id × AObj) := none

def RecD.reads (x : RecD) : List Id := keys x.rd ++ keys x.wi
def RecD.writes (x : RecD) : List Id := keys x.wi ++ keys x.nw

def guardOk (ops : List Oper) (o : Oper) (fr : List (Nat × AV)) (on : Bool) : Prop :=
  match o.guard with
  | none => on = true
  | some (j, want) => ∃ d b, (ops[j]?).bind (·.dst) = some d ∧ fr.lookup d = some (.one (.d (.raw (.bool b)))) ∧ on = (b == want)

structure Okay (E : Env) (ops : List Oper) (o : Oper) (S : St) (x : RecD) : Prop where
  guard : guardOk ops o S.fr x.on
  dst : dstOk o.dst E.N = true
  yes : x.on = true → OpS E.P E.G o (aev S.fr) x.rd x.wi x.wo x.nw x.v ∧ Sub x.rd S.m ∧ Sub x.wi S.m ∧ keys x.wo = keys x.wi ∧ fresh S.ids x.nw = true
  no : x.on = false → x.rd = [] ∧ x.wi = [] ∧ x.wo = [] ∧ x.nw = [] ∧ x.v = .tup 0 (fun _ => .one (.d (.raw undef)))
  soft : ∀ j id ob2, x.sf = some (j, id, ob2) → keys x.rd = [id] ∧ x.wi = [] ∧ x.wo = [] ∧ x.nw = [] ∧ OpS E.P E.G o (aev S.fr) [(id, ob2)] [] [] [] x.v

/-- The walk of a region in the text's order; 'tr': what was read and written so far. -/
def ALex (E : Env) (ops : List Oper) : List Oper → List RecD → St → (List RecD → St → Prop) → Prop
  | [], tr, S, K => K tr S
  | o :: rest, tr, S, K => ∃ x : RecD, Okay E ops o S x ∧ ALex E ops rest (tr ++ [x]) (S.upd o.dst x.wo x.nw x.v) K

theorem ALex.mono {E : Env} {ops : List Oper} {K K' : List RecD → St → Prop} {rest : List Oper} {tr} {S : St} (h : ALex E ops rest tr S K) (hk : ∀ tr S, K tr S → K' tr S) : ALex E ops rest tr S K' := by
  induction rest generalizing tr S with
  | nil => exact hk tr S h
  | cons o rest ih =>
    obtain ⟨x, hx, h⟩ := h
    exact ⟨x, hx, ih h⟩
theorem alex_nil {E ops tr S} {K : List RecD → St → Prop} (h : K tr S) : ALex E ops [] tr S K := h

theorem alex_op {E : Env} {ops : List Oper} {o : Oper} {rest : List Oper} {tr S} {K : List RecD → St → Prop} {rd wi : MIn} {wo : MOut} {nw : MIn} {v : AV}
    (h : OpS E.P E.G o (aev S.fr) rd wi wo nw v) (hg : o.guard = none) (h1 : Sub rd S.m) (h2 : Sub wi S.m) (h3 : keys wo = keys wi) (h4 : fresh S.ids nw = true) (h5 : dstOk o.dst E.N = true)
    (k : ALex E ops rest (tr ++ [⟨rd, wi, wo, nw, v, true, none⟩]) (S.upd o.dst wo nw v) K) : ALex E ops (o :: rest) tr S K :=
  ⟨⟨rd, wi, wo, nw, v, true, none⟩, ⟨by simp [guardOk, hg], h5, fun _ => ⟨h, h1, h2, h3, h4⟩, (fun h => by cases h), fun _ _ _ h => by cases h⟩, k⟩

/-- A read that another operation's writing does not hurt, whichever comes first. -/
theorem alex_softly {E : Env} {ops : List Oper} {o : Oper} {rest : List Oper} {tr S} {K : List RecD → St → Prop} {id : Id} {ob ob2 : AObj} {v : AV} (j : Nat)
    (h : OpS E.P E.G o (aev S.fr) [(id, ob)] [] [] [] v) (h' : OpS E.P E.G o (aev S.fr) [(id, ob2)] [] [] [] v) (hg : o.guard = none) (h1 : Sub [(id, ob)] S.m) (h5 : dstOk o.dst E.N = true)
    (k : ALex E ops rest (tr ++ [⟨[(id, ob)], [], [], [], v, true, some (j, id, ob2)⟩]) (S.upd o.dst [] [] v) K) : ALex E ops (o :: rest) tr S K :=
  ⟨⟨[(id, ob)], [], [], [], v, true, some (j, id, ob2)⟩, ⟨by simp [guardOk, hg], h5, fun _ => ⟨h, h1, trivial, rfl, rfl⟩, (fun h => by cases h), fun j' id' ob' e => by cases e; exact ⟨rfl, rfl, rfl, rfl, h'⟩⟩, k⟩

theorem alex_guard {E : Env} {ops : List Oper} {o : Oper} {rest : List Oper} {tr S} {K : List RecD → St → Prop} {rd wi : MIn} {wo : MOut} {nw : MIn} {v : AV} (j d : Nat) (want : Bool)
    (hg : o.guard = some (j, want)) (hj : (ops[j]?).bind (·.dst) = some d) (hb : S.fr.lookup d = some (.one (.d (.raw (.bool want)))))
    (h : OpS E.P E.G o (aev S.fr) rd wi wo nw v) (h1 : Sub rd S.m) (h2 : Sub wi S.m) (h3 : keys wo = keys wi) (h4 : fresh S.ids nw = true) (h5 : dstOk o.dst E.N = true)
    (k : ALex E ops rest (tr ++ [⟨rd, wi, wo, nw, v, true, none⟩]) (S.upd o.dst wo nw v) K) : ALex E ops (o :: rest) tr S K :=
  ⟨⟨rd, wi, wo, nw, v, true, none⟩, ⟨by simp only [guardOk, hg]; exact ⟨d, want, hj, hb, by simp⟩, h5, fun _ => ⟨h, h1, h2, h3, h4⟩, (fun h => by cases h), fun _ _ _ h => by cases h⟩, k⟩

theorem alex_skip {E : Env} {ops : List Oper} {o : Oper} {rest : List Oper} {tr S} {K : List RecD → St → Prop} (j d : Nat) (want : Bool)
    (hg : o.guard = some (j, want)) (hj : (ops[j]?).bind (·.dst) = some d) (hb : S.fr.lookup d = some (.one (.d (.raw (.bool (!want))))))  (h5 : dstOk o.dst E.N = true)
    (k : ALex E ops rest (tr ++ [⟨[], [], [], [], .tup 0 (fun _ => .one (.d (.raw undef))), false, none⟩]) (S.upd o.dst [] [] (.tup 0 (fun _ => .one (.d (.raw undef))))) K) : ALex E ops (o :: rest) tr S K :=
  ⟨⟨[], [], [], [], .tup 0 (fun _ => .one (.d (.raw undef))), false, none⟩, ⟨by simp only [guardOk, hg]; exact ⟨d, !want, hj, hb, by cases want <;> rfl⟩, h5, (fun h => by cases h), (fun _ => ⟨rfl, rfl, rfl, rfl, rfl⟩), fun _ _ _ h => by cases h⟩, k⟩

theorem Sim.toR {E S a w φ F} (h : Sim E S a w φ F) : SimR E (fun t => S.fr.lookup t) S.mem S.ids a w φ F := ⟨h.defers, h.size, h.slots, h.mem, h.dom, h.root, h.since⟩
theorem SimR.toS {E S a w φ F} (h : SimR E (fun t => S.fr.lookup t) S.mem S.ids a w φ F) : Sim E S a w φ F := ⟨h.defers, h.size, h.slots, h.mem, h.dom, h.root, h.since⟩

theorem ofOut_upd (m : MOut) (rd : MIn) (wo : MOut) (nw : MIn) (hrd : ∀ id o, rd.lookup id = some o → ofOut m id = some o) (id : Id) : ofOut (lift nw ++ (wo ++ m)) id = putM (ofOut m) (outs rd wo nw) id := by
  unfold putM ofOut outs
  rw [lookup_append, lookup_append, lookup_append, lookup_append]
  cases h1 : (lift nw).lookup id with
  | some o => simp
  | none =>
    cases h2 : wo.lookup id with
    | some o => simp
    | none =>
      simp only [Option.none_or]
      cases h3 : (lift rd).lookup id with
      | none => rfl
      | some o =>
        rw [lookup_lift] at h3
        cases h4 : rd.lookup id with
        | none => rw [h4] at h3; cases h3
        | some x => rw [h4] at h3; cases h3; exact hrd id x h4

theorem mem_lookup_cons {t d : Nat} {u v : AV} {fr : List (Nat × AV)} (h : ((d, v) :: fr).lookup t = some u) : (t = d ∧ u = v) ∨ (t ≠ d ∧ fr.lookup t = some u) := by
  rw [List.lookup_cons] at h
  cases hb : (t == d) with
  | true => rw [hb] at h; cases h; exact .inl ⟨by simpa using hb, rfl⟩
  | false => rw [hb] at h; exact .inr ⟨by simpa using hb, h⟩

theorem wanted_of_guard {E : Env} {ops : List Oper} {o : Oper} {fr : List (Nat × AV)} {a : Act} {w φ F} {on : Bool} (hsz : a.tmps.size = E.N) (hsl : ∀ d b, fr.lookup d = some (.one (.d (.raw (.bool b)))) → d < E.N ∧ repAV φ F w (.one (.d (.raw (.bool b)))) (a.tmps.getD d undef))
    (h : guardOk ops o fr on) : Region.wanted o (yielded ops.toArray a.tmps) = on := by
  unfold guardOk at h
  unfold Region.wanted
  cases hg : o.guard with
  | none => rw [hg] at h; simp [h]
  | some p =>
    obtain ⟨j, want⟩ := p
    rw [hg] at h
    obtain ⟨d, b, h1, h2, h3⟩ := h
    obtain ⟨h4, h5⟩ := hsl d b h2
    simp only [repAV, repC, repD] at h5
    have h6 : a.tmps[d]? = some (.bool b) := by
      have := h5.1
      rw [Array.getD_eq_getD_getElem?] at this
      rw [Array.getElem?_eq_getElem (by omega)] at this ⊢
      simpa using this
    have h7 : yielded ops.toArray a.tmps j = some b := by
      unfold yielded
      have : (ops.toArray[j]?).bind (·.dst) = some d := by simpa using h1
      rw [this]
      simp [h6]
    simp only [h7, h3]
    cases b <;> cases want <;> rfl

theorem alex_seq {E : Env} {ops : List Oper} {Q : Exit → St → Prop} : ∀ (rest : List Oper) (tr) (S : St), ALex E ops rest tr S (fun _ S' => Q .normal S') →
    ∀ a w φ F, Sim E S a w φ F → wpList E.P ops.toArray (conc E Q) rest a w
  | [], tr, S, h, a, w, φ, F, hs => ⟨S, φ, F, h, hs⟩
  | o :: rest, tr, S, ⟨x, hx, h⟩, a, w, φ, F, hs => by
    have hw := wanted_of_guard (E := E) (w := w) (φ := φ) (F := F) hs.size (fun d b hd => hs.slots d _ hd) hx.guard
    unfold wpList
    cases hon : x.on with
    | true =>
      rw [if_pos (by rw [hw, hon])]
      obtain ⟨h1, h2, h3, h4, h5⟩ := hx.yes hon
      refine .inl (hs.toR.op (ids' := (S.upd o.dst x.wo x.nw x.v).ids) (fun y _ u hu => hs.ev hu) h1 (fun id ob hl => h2.get hl) (fun id ob hl => h3.get hl) h4 ?_ hx.dst (fun id hid => ?_) (frf' := fun t => (S.upd o.dst x.wo x.nw x.v).fr.lookup t) (mf' := (S.upd o.dst x.wo x.nw x.v).mem) ?_ ?_ ?_)
      · intro id hid
        cases hφ : φ id with
        | none => rfl
        | some r =>
          have := hs.dom id r hφ
          simp only [fresh, List.all_eq_true] at h5
          have := h5 id hid
          simp_all
      · simp only [St.upd, List.mem_append]; exact hid.symm
      · intro t u hu
        simp only [St.upd] at hu
        cases hd : o.dst with
        | none => rw [hd] at hu; exact .inr ⟨by simp, hu⟩
        | some d =>
          rw [hd] at hu
          rcases mem_lookup_cons hu with ⟨h6, h7⟩ | ⟨h6, h7⟩
          · exact .inl ⟨by rw [h6], h7⟩
          · exact .inr ⟨by simpa using fun e => h6 e.symm, h7⟩
      · intro id
        exact ofOut_upd S.m x.rd x.wo x.nw (fun id ob hl => h2.get hl) id
      · intro a' w' φ' F' hs' _ _
        exact alex_seq rest _ _ h a' w' φ' F' hs'.toS
    | false =>
      rw [if_neg (by rw [hw, hon]; simp)]
      obtain ⟨h1, h2, h3, h4, h5⟩ := hx.no hon
      refine alex_seq rest _ _ h _ w φ F ?_
      rw [h3, h4, h5]
      refine ⟨by rw [Act.put_defers]; exact hs.defers, by rw [Act.put_size]; exact hs.size, ?_, hs.mem, hs.dom, hs.root, hs.since⟩
      intro t u hu
      simp only [St.upd] at hu
      cases hd : o.dst with
      | none => rw [hd] at hu; exact hs.slots t u hu
      | some d =>
        rw [hd] at hu
        have hdlt : d < E.N := by have := hx.dst; rw [hd] at this; simpa [dstOk] using this
        rcases mem_lookup_cons hu with ⟨h6, h7⟩ | ⟨h6, h7⟩
        · subst h6; subst h7
          refine ⟨hdlt, ?_⟩
          rw [Act.put_getD _ _ _ _ (by rw [hs.size]; exact hdlt), if_pos rfl]
          simp only [repAV]
          exact ⟨[], rfl, rfl, fun j v hv => by simp at hv⟩
        · obtain ⟨h8, h9⟩ := hs.slots t u h7
          refine ⟨h8, ?_⟩
          rw [Act.put_getD _ _ _ _ (by rw [hs.size]; exact hdlt), if_neg h6]
          exact h9

theorem awp_region {E : Env} {ops : List Oper} {Q : Exit → St → Prop} {S : St} {id : Nat} (h : ALex E ops ops [] S (fun _ S' => Q .normal S')) : AWP E (.region id ops.toArray false) Q S :=
  fun a w φ F hs => wp_region_lit (alex_seq ops [] S h a w φ F hs)

end Go.Bw
