/- Abstract walk over contents given by functions, part 12: a region whose order is drawn: whatever order, it comes to what the text's order comes to. -/
import Derived.Test.YticpndkcicgenaaDoorBw11
set_option linter.unusedVariables false
set_option linter.unusedSimpArgs false
namespace Go.Bw
open Go.RowKit

/-! ### the last writer -/
def lastM {β : Type} (f : Nat → Option β) (D : Nat → Bool) : Nat → Option β
  | 0 => none
  | n + 1 => if D n then (f n).or (lastM f D n) else lastM f D n
theorem lastM_congr {β : Type} {f : Nat → Option β} {D D' : Nat → Bool} : ∀ {n : Nat}, (∀ i, i < n → (f i).isSome = true → D i = D' i) → lastM f D n = lastM f D' n
  | 0, _ => rfl
  | n + 1, h => by
    have ih := lastM_congr (f := f) (D := D) (D' := D') (n := n) fun i hi => h i (by omega)
    simp only [lastM, ih]
    cases hf : f n with
    | none => simp
    | some b => rw [h n (by omega) (by simp [hf])]
theorem lastM_lt {β : Type} {f : Nat → Option β} {i : Nat} : ∀ {n : Nat}, i ≤ n → lastM f (fun j => decide (j < i)) n = lastM f (fun _ => true) i
  | 0, h => by have : i = 0 := by omega
               subst this; rfl
  | n + 1, h => by
    by_cases hi : i = n + 1
    · subst hi
      exact lastM_congr fun j hj _ => by simpa using hj
    · simp only [lastM]
      rw [if_neg (by simp; omega)]
      exact lastM_lt (by omega)
theorem lastM_at {β : Type} {f : Nat → Option β} {D : Nat → Bool} {i : Nat} {b : β} : ∀ {n : Nat}, i < n → (∀ j, j < n → (f j).isSome = true → D j = true → j ≤ i) → D i = true → f i = some b → lastM f D n = some b
  | 0, h, _, _, _ => absurd h (Nat.not_lt_zero _)
  | n + 1, h, hd, hi, hf => by
    simp only [lastM]
    by_cases hin : i = n
    · subst hin; rw [if_pos hi, hf]; rfl
    · have ih := lastM_at (f := f) (D := D) (n := n) (by omega) (fun j hj => hd j (by omega)) hi hf
      cases hDn : D n with
      | false => simpa using ih
      | true =>
        cases hfn : f n with
        | none => simpa using ih
        | some c => have := hd n (by omega) (by simp [hfn]) hDn; omega
theorem lastM_shift {β : Type} {f : Nat → Option β} : ∀ {n : Nat}, lastM f (fun _ => true) (n + 1) = (lastM (fun i => f (i + 1)) (fun _ => true) n).or (f 0)
  | 0 => by simp [lastM]
  | n + 1 => by
    rw [lastM, if_pos rfl, lastM_shift (n := n)]
    rw [lastM, if_pos rfl]
    cases f (n + 1) <;> simp

/-! ### the records of a walk in the text's order -/
def OkAll (E : Env) (ops : List Oper) : List Oper → List RecD → St → Prop
  | [], [], _ => True
  | o :: rest, x :: xs, S => Okay E ops o S x ∧ OkAll E ops rest xs (S.upd o.dst x.wo x.nw x.v)
  | _, _, _ => False
def stAt : List Oper → List RecD → St → St
  | o :: rest, x :: xs, S => stAt rest xs (S.upd o.dst x.wo x.nw x.v)
  | _, _, S => S
theorem alex_recs {E : Env} {ops : List Oper} {K : List RecD → St → Prop} : ∀ {rest : List Oper} {tr} {S : St}, ALex E ops rest tr S K →
    ∃ xs, OkAll E ops rest xs S ∧ xs.length = rest.length ∧ K (tr ++ xs) (stAt rest xs S)
  | [], tr, S, h => ⟨[], trivial, rfl, by simpa [stAt, ALex] using h⟩
  | o :: rest, tr, S, ⟨x, hx, h⟩ => by
    obtain ⟨xs, h1, h2, h3⟩ := alex_recs h
    exact ⟨x :: xs, ⟨hx, h1⟩, by simp [h2], by simpa [stAt] using h3⟩

def fv (os : List Oper) (xs : List RecD) (t : Nat) (i : Nat) : Option AV :=
  match os[i]?, xs[i]? with
  | some o, some x => if o.dst = some t then some x.v else none
  | _, _ => none
def fm (xs : List RecD) (id : Id) (i : Nat) : Option (Option AObj) :=
  match xs[i]? with
  | some x => (lift x.nw ++ x.wo).lookup id
  | none => none
theorem upd_fr {S : St} {o : Oper} {wo nw v} (t : Nat) : (S.upd o.dst wo nw v).fr.lookup t = (if o.dst = some t then some v else none).or (S.fr.lookup t) := by
  simp only [St.upd]
  cases hd : o.dst with
  | none => simp
  | some d =>
    simp only [List.lookup_cons, Option.some.injEq]
    cases hb : (t == d) with
    | true => have : t = d := by simpa using hb
              simp [this]
    | false => have : d ≠ t := by have : t ≠ d := by simpa using hb
                                  exact fun e => this e.symm
               simp [this]
theorem upd_m {S : St} {o : Oper} {wo nw v} (id : Id) : (S.upd o.dst wo nw v).m.lookup id = ((lift nw ++ wo).lookup id).or (S.m.lookup id) := by
  simp only [St.upd, lookup_append, Option.or_assoc]

/-- The state ahead of operation i. -/
theorem okAll_get {E : Env} {ops : List Oper} : ∀ {os : List Oper} {xs : List RecD} {S : St}, OkAll E ops os xs S → ∀ {i : Nat} {o : Oper} {x : RecD}, os[i]? = some o → xs[i]? = some x →
    ∃ S' : St, Okay E ops o S' x ∧ (∀ t, S'.fr.lookup t = (lastM (fv os xs t) (fun _ => true) i).or (S.fr.lookup t)) ∧ (∀ id, S'.m.lookup id = (lastM (fm xs id) (fun _ => true) i).or (S.m.lookup id)) ∧
      (∀ id ∈ S.ids, id ∈ S'.ids) ∧ ∀ j, j < i → ∀ y, xs[j]? = some y → ∀ id ∈ keys y.nw, id ∈ S'.ids
  | [], [], S, _, i, o, x, h1, _ => by simp at h1
  | o0 :: os, x0 :: xs, S, h, 0, o, x, h1, h2 => by
    simp at h1 h2; subst h1; subst h2
    exact ⟨S, h.1, fun t => by simp [lastM], fun id => by simp [lastM], fun _ h => h, fun j hj => absurd hj (Nat.not_lt_zero _)⟩
  | o0 :: os, x0 :: xs, S, h, i + 1, o, x, h1, h2 => by
    obtain ⟨S', k1, k2, k3, k4, k5⟩ := okAll_get h.2 (i := i) (by simpa using h1) (by simpa using h2)
    refine ⟨S', k1, ?_, ?_, ?_, ?_⟩
    · intro t
      rw [k2 t, upd_fr, lastM_shift, Option.or_assoc]
      rfl
    · intro id
      rw [k3 id, upd_m, lastM_shift, Option.or_assoc]
      rfl
    · intro id hid; exact k4 id (by simp only [St.upd, List.mem_append]; exact .inr hid)
    · intro j hj y hy id hid
      cases j with
      | zero => simp at hy; subst hy; exact k4 id (by simp only [St.upd, List.mem_append]; exact .inl hid)
      | succ j => exact k5 j (by omega) y (by simpa using hy) id hid
  | [], _ :: _, _, h, _, _, _, _, _ => h.elim
  | _ :: _, [], _, h, _, _, _, _, _ => h.elim
theorem stAt_look : ∀ {os : List Oper} {xs : List RecD} {S : St}, xs.length = os.length → (∀ t, (stAt os xs S).fr.lookup t = (lastM (fv os xs t) (fun _ => true) os.length).or (S.fr.lookup t)) ∧ (∀ id, (stAt os xs S).m.lookup id = (lastM (fm xs id) (fun _ => true) os.length).or (S.m.lookup id)) ∧
    ((∀ id ∈ S.ids, id ∈ (stAt os xs S).ids) ∧ ∀ x ∈ xs, ∀ id ∈ keys x.nw, id ∈ (stAt os xs S).ids)
  | [], [], S, _ => ⟨fun t => by simp [stAt, lastM], fun id => by simp [stAt, lastM], fun _ h => h, by simp⟩
  | o0 :: os, x0 :: xs, S, h => by
    obtain ⟨k1, k2, k3, k4⟩ := stAt_look (os := os) (xs := xs) (S := S.upd o0.dst x0.wo x0.nw x0.v) (by simpa using h)
    refine ⟨?_, ?_, ?_, ?_⟩
    · intro t
      simp only [stAt]
      rw [k1 t, upd_fr, List.length_cons, lastM_shift, Option.or_assoc]; rfl
    · intro id
      simp only [stAt]
      rw [k2 id, upd_m, List.length_cons, lastM_shift, Option.or_assoc]; rfl
    · intro id hid; exact k3 id (by simp only [St.upd, List.mem_append]; exact .inr hid)
    · intro x hx id hid
      simp only [List.mem_cons] at hx
      rcases hx with rfl | hx
      · exact k3 id (by simp only [St.upd, List.mem_append]; exact .inl hid)
      · exact k4 x hx id hid
  | [], _ :: _, _, h => by simp at h
  | _ :: _, [], _, h => by simp at h

/-! ### which operations must stand in their order -/
def slotsOf (ops : List Oper) (o : Oper) : List Nat :=
  (o.op.operands.toList.filterMap fun | .tmp t => some t | _ => none) ++
  (match o.guard with | some (j, _) => (((ops[j]?).bind (·.dst)).toList) | none => [])
def meets {α : Type} [BEq α] (a b : List α) : Bool := a.any fun x => b.contains x
def confl (ops : List Oper) (oi oj : Oper) (ti tj : List Id × List Id) : Bool :=
  meets oi.dst.toList (slotsOf ops oj ++ oj.dst.toList) || meets oj.dst.toList (slotsOf ops oi) ||
  meets ti.2 (tj.1 ++ tj.2) || meets ti.1 tj.2
def edges (o : Oper) : List Nat := (o.after.toList.filter (Region.binds .any)).map (·.on)
def befs (ops : List Oper) : List (List Nat) := ops.foldl (fun acc o => acc ++ [((edges o).flatMap fun e => e :: acc.getD e []).eraseDups]) []
def tre (x : RecD) : List Id × List Id := (x.reads, x.writes)
/-- The softened pairs: (reader, writer, object, what the writer makes of it). -/
def softs (xs : List RecD) : List (Nat × Nat × Id × AObj) := xs.zipIdx.filterMap fun p => p.1.sf.map fun q => (p.2, q.1, q.2.1, q.2.2)
def softP (xs : List RecD) : List (Nat × Nat) := (softs xs).map fun s => (s.1, s.2.1)
def SoftOne (xs : List RecD) (s : Nat × Nat × Id × AObj) : Prop := s.1 < s.2.1 ∧ ∃ y, xs[s.2.1]? = some y ∧ (lift y.nw ++ y.wo).lookup s.2.2.1 = some (some s.2.2.2)
def SoftAll (xs : List RecD) : List (Nat × Nat × Id × AObj) → Prop
  | [] => True
  | s :: r => SoftOne xs s ∧ SoftAll xs r
theorem SoftAll.get {xs : List RecD} : ∀ {l : List (Nat × Nat × Id × AObj)}, SoftAll xs l → ∀ {s}, s ∈ l → SoftOne xs s
  | _ :: _, h, s, hs => by
    rcases List.mem_cons.1 hs with rfl | hs
    · exact h.1
    · exact SoftAll.get h.2 hs
theorem softs_mem {xs : List RecD} {i j : Nat} {id : Id} {ob : AObj} : (i, j, id, ob) ∈ softs xs ↔ ∃ x, xs[i]? = some x ∧ x.sf = some (j, id, ob) := by
  unfold softs
  rw [List.mem_filterMap]
  constructor
  · rintro ⟨⟨x, k⟩, h1, h2⟩
    rw [List.mem_zipIdx_iff_getElem?] at h1
    simp only [Option.map_eq_some_iff, Prod.mk.injEq] at h2
    obtain ⟨⟨j', id', ob'⟩, h3, rfl, rfl, rfl, rfl⟩ := h2
    exact ⟨x, by simpa using h1, h3⟩
  · rintro ⟨x, h1, h2⟩
    exact ⟨(x, i), by rw [List.mem_zipIdx_iff_getElem?]; simpa using h1, by simp [h2]⟩
theorem softP_mem {xs : List RecD} {i j : Nat} : (i, j) ∈ softP xs ↔ ∃ x id ob, xs[i]? = some x ∧ x.sf = some (j, id, ob) := by
  unfold softP
  rw [List.mem_map]
  constructor
  · rintro ⟨⟨i', j', id, ob⟩, h1, h2⟩
    simp only [Prod.mk.injEq] at h2
    obtain ⟨rfl, rfl⟩ := h2
    obtain ⟨x, h3, h4⟩ := softs_mem.1 h1
    exact ⟨x, id, ob, h3, h4⟩
  · rintro ⟨x, id, ob, h1, h2⟩
    exact ⟨(i, j, id, ob), softs_mem.2 ⟨x, h1, h2⟩, rfl⟩
def soften (sp : List (Nat × Nat)) (i j : Nat) (t : List Id × List Id) : List Id × List Id := if sp.contains (i, j) then ([], t.2) else t
theorem soften_snd (sp : List (Nat × Nat)) (i j : Nat) (t : List Id × List Id) : (soften sp i j t).2 = t.2 := by unfold soften; split <;> rfl
def orderOkT (ops : List Oper) (tr : List (List Id × List Id)) (sp : List (Nat × Nat)) : Bool :=
  (let L := Region.linearise .gc ops.toArray 0
   ops.zipIdx.all fun p => p.1.after.toList.all fun e => match e.ground with
    | .gcOnly _ => decide (e.on < ops.length) && decide (L.idxOf e.on < L.idxOf p.2)
    | .textOnly _ => decide (e.on < p.2)
    | _ => decide (e.on < p.2) && decide (L.idxOf e.on < L.idxOf p.2)) &&
  let b := befs ops
  (ops.zipIdx.all fun p => ops.zipIdx.all fun q => decide (p.2 < q.2) == false || !confl ops p.1 q.1 (soften sp p.2 q.2 (tr.getD p.2 ([], []))) (tr.getD q.2 ([], [])) || (b.getD q.2 []).contains p.2)
def orderOk (ops : List Oper) (xs : List RecD) : Bool := orderOkT ops (xs.map tre) (softP xs)

inductive Bef (ops : List Oper) : Nat → Nat → Prop where
  | one {j o e} : ops[j]? = some o → e ∈ edges o → Bef ops j e
  | step {j o e i} : ops[j]? = some o → e ∈ edges o → Bef ops e i → Bef ops j i
theorem befs_fold (ops : List Oper) : ∀ (rest : List Oper) (acc : List (List Nat)), rest = ops.drop acc.length → (∀ j i, i ∈ acc.getD j [] → Bef ops j i) →
    ∀ j i, i ∈ (rest.foldl (fun acc o => acc ++ [((edges o).flatMap fun e => e :: acc.getD e []).eraseDups]) acc).getD j [] → Bef ops j i
  | [], acc, _, h => h
  | o :: rest, acc, hr, h => by
    simp only [List.foldl_cons]
    have ho : ops[acc.length]? = some o := by
      have := congrArg (fun l => l[0]?) hr
      simpa using this.symm
    refine befs_fold ops rest _ ?_ ?_
    · have := congrArg List.tail hr
      simpa [List.tail_drop] using this
    · intro j i hi
      rw [List.getD_eq_getElem?_getD, List.getElem?_append] at hi
      split at hi
      · exact h j i (by rw [List.getD_eq_getElem?_getD]; exact hi)
      · by_cases hj : j - acc.length = 0
        · have hje : j = acc.length := by omega
          subst hje
          simp only [Nat.sub_self, List.getElem?_cons_zero, Option.getD_some, List.mem_eraseDups, List.mem_flatMap, List.mem_cons] at hi
          obtain ⟨e, he, hie⟩ := hi
          rcases hie with rfl | hie
          · exact .one ho he
          · exact .step ho he (h e i hie)
        · rw [List.getElem?_eq_none (by simp; omega)] at hi
          simp at hi
theorem befs_spec {ops : List Oper} {j i : Nat} (h : i ∈ (befs ops).getD j []) : Bef ops j i :=
  befs_fold ops ops [] (by simp) (by simp) j i h

def Down (ops : List Oper) (D : Nat → Bool) : Prop := ∀ j o, D j = true → ops[j]? = some o → ∀ e ∈ edges o, D e = true
theorem Bef.down {ops : List Oper} {D : Nat → Bool} (hd : Down ops D) {j i : Nat} (h : Bef ops j i) : D j = true → D i = true := by
  induction h with
  | one ho he => exact fun hj => hd _ _ hj ho _ he
  | step ho he _ ih => exact fun hj => ih (hd _ _ hj ho _ he)
theorem Bef.ready {ops : List Oper} {D : Nat → Bool} (hd : Down ops D) {j i : Nat} (h : Bef ops j i) (hr : ∀ o, ops[j]? = some o → ∀ e ∈ edges o, D e = true) : D i = true := by
  cases h with
  | one ho he => exact hr _ ho _ he
  | step ho he h' => exact h'.down hd (hr _ ho _ he)

/-- Two that conflict stand in their order. -/
theorem orderOk_spec {ops : List Oper} {xs : List RecD} (h : orderOk ops xs = true) : (∀ m : Region.Mode, ∃ ρ : Nat → Nat, ∀ (j : Nat) (o : Oper), ops[j]? = some o → ∀ e ∈ o.after.toList, Region.binds m e = true → e.on < ops.length ∧ ρ e.on < ρ j) ∧
    ∀ i j oi oj, i < j → ops[i]? = some oi → ops[j]? = some oj → confl ops oi oj (soften (softP xs) i j ((xs.map tre).getD i ([], []))) ((xs.map tre).getD j ([], [])) = true → Bef ops j i := by
  unfold orderOk orderOkT at h
  simp only [Bool.and_eq_true] at h
  obtain ⟨h2, h3⟩ := h
  have h2' : ∀ (j : Nat) (o : Oper), ops[j]? = some o → ∀ e ∈ o.after.toList, (match e.ground with
    | .gcOnly _ => decide (e.on < ops.length) && decide ((Region.linearise .gc ops.toArray 0).idxOf e.on < (Region.linearise .gc ops.toArray 0).idxOf j)
    | .textOnly _ => decide (e.on < j)
    | _ => decide (e.on < j) && decide ((Region.linearise .gc ops.toArray 0).idxOf e.on < (Region.linearise .gc ops.toArray 0).idxOf j)) = true := by
    intro j o ho e he
    have h4 := List.all_eq_true.1 h2 (o, j) (by rw [List.mem_zipIdx_iff_getElem?]; simpa using ho)
    exact List.all_eq_true.1 h4 e he
  refine ⟨fun m => ?_, ?_⟩
  · refine ⟨match m with | .gc => (Region.linearise .gc ops.toArray 0).idxOf | _ => fun i => i, fun j o ho e he hb => ?_⟩
    have hj : j < ops.length := (List.getElem?_eq_some_iff.1 ho).1
    have h5 := h2' j o ho e he
    obtain ⟨on, gr⟩ := e
    cases m <;> cases gr <;> simp [Region.binds] at hb h5 ⊢ <;> omega
  · intro i j oi oj hij hi hj hc
    have h4 := List.all_eq_true.1 h3 (oi, i) (by rw [List.mem_zipIdx_iff_getElem?]; simpa using hi)
    have h5 := List.all_eq_true.1 h4 (oj, j) (by rw [List.mem_zipIdx_iff_getElem?]; simpa using hj)
    simp only [hc, Bool.not_true, Bool.or_false, Bool.or_eq_true] at h5
    rcases h5 with h5 | h5
    · simp [hij] at h5
    · exact befs_spec (by simpa [List.contains_iff_mem] using h5)

/-! ### the invariant -/
def frD (os : List Oper) (xs : List RecD) (S : St) (D : Nat → Bool) (t : Nat) : Option AV := (lastM (fv os xs t) D os.length).or (S.fr.lookup t)
def mD (os : List Oper) (xs : List RecD) (S : St) (D : Nat → Bool) : Mem := fun id => ((lastM (fm xs id) D os.length).or (S.m.lookup id)).join

structure InvD (E : Env) (os : List Oper) (xs : List RecD) (S : St) (D : Nat → Bool) (a : Act) (w : World) (φ : Id → Option Ref) (F : Nat → Prop) : Prop where
  sim : SimR E (frD os xs S D) (mD os xs S D) (stAt os xs S).ids a w φ F
  undone : ∀ i x, xs[i]? = some x → D i = false → ∀ id ∈ keys x.nw, φ id = none

theorem meets_of {α : Type} [BEq α] [LawfulBEq α] {a b : List α} {x : α} (h1 : x ∈ a) (h2 : x ∈ b) : meets a b = true := by
  unfold meets
  rw [List.any_eq_true]
  exact ⟨x, h1, by simpa [List.contains_iff_mem] using h2⟩

section step
variable {E : Env} {os : List Oper} {xs : List RecD} {S : St} {D : Nat → Bool}

/-- Of the writers of what operation i looks at, those ahead of it in the text are done, those behind it are not. -/
theorem done_iff (hok : orderOk os xs = true) (hdn : Down os D) {i : Nat} {o : Oper} (ho : os[i]? = some o) (hi : D i = false) (hr : ∀ e ∈ edges o, D e = true) {j : Nat} {oj : Oper} (hj : os[j]? = some oj)
    (hc : j ≠ i → (j < i → confl os oj o (soften (softP xs) j i ((xs.map tre).getD j ([], []))) ((xs.map tre).getD i ([], [])) = true) ∧ (i < j → confl os o oj (soften (softP xs) i j ((xs.map tre).getD i ([], []))) ((xs.map tre).getD j ([], [])) = true)) : D j = decide (j < i) := by
  obtain ⟨_, h3⟩ := orderOk_spec hok
  rcases Nat.lt_trichotomy j i with h | h | h
  · have := h3 j i oj o h hj ho ((hc (by omega)).1 h)
    rw [this.ready hdn (fun o' ho' => by rw [ho] at ho'; cases ho'; exact hr)]
    simp [h]
  · subst h; rw [hi]; simp
  · have hb := h3 i j o oj h ho hj ((hc (by omega)).2 h)
    have : D j = false := by
      cases hDj : D j with
      | false => rfl
      | true => rw [hb.down hdn hDj] at hi; cases hi
    rw [this]; simp; omega

theorem wanted_of_guardF {ops : List Oper} {o : Oper} {fr : List (Nat × AV)} {a : Act} {on : Bool} (h : guardOk ops o fr on) (hsl : ∀ d b, d ∈ slotsOf ops o → fr.lookup d = some (AB b) → a.tmps[d]? = some (.bool b)) : Region.wanted o (yielded ops.toArray a.tmps) = on := by
  unfold guardOk at h
  unfold Region.wanted
  cases hg : o.guard with
  | none => rw [hg] at h; simp [h]
  | some p =>
    obtain ⟨j, want⟩ := p
    rw [hg] at h
    obtain ⟨d, b, h1, h2, h3⟩ := h
    have h6 := hsl d b (by unfold slotsOf; rw [hg]; simp [h1]) h2
    have h7 : yielded ops.toArray a.tmps j = some b := by
      unfold yielded
      have : (ops.toArray[j]?).bind (·.dst) = some d := by simpa using h1
      rw [this]
      simp [h6]
    simp only [h7, h3]
    cases b <;> cases want <;> rfl

theorem fv_some {t j v} (h : fv os xs t j = some v) : ∃ oj xj, os[j]? = some oj ∧ xs[j]? = some xj ∧ oj.dst = some t ∧ v = xj.v := by
  unfold fv at h
  split at h
  · rename_i o x h1 h2
    split at h
    · rename_i h3; cases h; exact ⟨o, x, h1, h2, h3, rfl⟩
    · cases h
  · cases h
theorem fm_some {id j v} (h : fm xs id j = some v) : ∃ xj, xs[j]? = some xj ∧ (lift xj.nw ++ xj.wo).lookup id = some v := by
  unfold fm at h
  split at h
  · rename_i x h1; exact ⟨x, h1, h⟩
  · cases h
theorem out_writes {o : Oper} {S' : St} {x : RecD} (hx : Okay E os o S' x) {id v} (h : (lift x.nw ++ x.wo).lookup id = some v) : id ∈ x.writes := by
  rw [lookup_append] at h
  have hk : keys x.wo = keys x.wi := by
    cases hon : x.on with
    | true => exact (hx.yes hon).2.2.2.1
    | false => obtain ⟨_, h2, h3, _⟩ := hx.no hon; rw [h2, h3]; rfl
  unfold RecD.writes
  rw [List.mem_append]
  cases h1 : (lift x.nw).lookup id with
  | some o => right; rw [← keys_lift, lookup_keys, h1]; rfl
  | none =>
    rw [h1] at h
    left
    rw [← hk, lookup_keys]
    simp only [Option.none_or] at h
    rw [h]; rfl

theorem inv_step (hall : OkAll E os os xs S) (hlen : xs.length = os.length) (hsoft : SoftAll xs (softs xs)) (hok : orderOk os xs = true) (hdn : Down os D) {a : Act} {w : World} {φ : Id → Option Ref} {F : Nat → Prop} (hinv : InvD E os xs S D a w φ F)
    {i : Nat} {o : Oper} (ho : os[i]? = some o) (hi : D i = false) (hr : ∀ e ∈ edges o, D e = true) {K : Act → World → Prop} {Q : Exit → Act → World → Prop}
    (hK : ∀ a' w' φ' F', InvD E os xs S (fun j => D j || (j == i)) a' w' φ' F' → K a' w') : if Region.wanted o (yielded os.toArray a.tmps) then o.wp E.P a w K Q else K (a.put o.dst undef) w := by
  have hil : i < os.length := (List.getElem?_eq_some_iff.1 ho).1
  have hix : i < xs.length := by omega
  obtain ⟨x, hx⟩ : ∃ x, xs[i]? = some x := ⟨xs[i], List.getElem?_eq_getElem hix⟩
  obtain ⟨S', hOk, hSf, hSm, hSi, hSn⟩ := okAll_get hall ho hx
  have htrj : ∀ (j : Nat) (xj : RecD), xs[j]? = some xj → (xs.map tre).getD j ([], []) = (xj.reads, xj.writes) := by
    intro j xj hj; rw [List.getD_eq_getElem?_getD, List.getElem?_map, hj]; rfl
  have hti := htrj i x hx
  have hokj : ∀ (j : Nat) (oj : Oper) (xj : RecD), os[j]? = some oj → xs[j]? = some xj → ∃ Sj, Okay E os oj Sj xj := by
    intro j oj xj h1 h2
    obtain ⟨Sj, h3, _⟩ := okAll_get hall h1 h2
    exact ⟨Sj, h3⟩
  -- writers of a slot
  have hA : ∀ t, t ∈ slotsOf os o → frD os xs S D t = S'.fr.lookup t := by
    intro t ht
    unfold frD
    rw [hSf t]
    congr 1
    rw [← lastM_lt (n := os.length) (Nat.le_of_lt hil)]
    refine lastM_congr fun j hj hs => ?_
    obtain ⟨v, hv⟩ := Option.isSome_iff_exists.1 hs
    obtain ⟨oj, xj, h1, h2, h3, _⟩ := fv_some hv
    refine done_iff hok hdn ho hi hr h1 fun hne => ⟨fun _ => ?_, fun _ => ?_⟩
    · unfold confl
      rw [meets_of (x := t) (by simp [h3]) (by simp [ht])]; rfl
    · unfold confl
      rw [meets_of (a := oj.dst.toList) (x := t) (by simp [h3]) ht]; simp
  have hB : ∀ t, o.dst = some t → lastM (fv os xs t) (fun j => D j || (j == i)) os.length = some x.v := by
    intro t ht
    refine lastM_at hil ?_ (by simp) (by unfold fv; rw [ho, hx]; simp [ht])
    intro j hj hs hD
    obtain ⟨v, hv⟩ := Option.isSome_iff_exists.1 hs
    obtain ⟨oj, xj, h1, h2, h3, _⟩ := fv_some hv
    by_cases hne : j = i
    · omega
    · have hDj : D j = true := by simpa [hne] using hD
      have := done_iff hok hdn ho hi hr h1 fun _ => ⟨fun _ => by
          unfold confl
          rw [meets_of (x := t) (by simp [h3]) (by simp [ht])]; rfl, fun _ => by
          unfold confl
          rw [meets_of (a := o.dst.toList) (x := t) (by simp [ht]) (by simp [h3])]; rfl⟩
      rw [hDj] at this
      have : j < i := by simpa using this.symm
      omega
  have hC : ∀ t, o.dst ≠ some t → lastM (fv os xs t) (fun j => D j || (j == i)) os.length = lastM (fv os xs t) D os.length := by
    intro t ht
    refine lastM_congr fun j hj hs => ?_
    by_cases hne : j = i
    · subst hne
      obtain ⟨v, hv⟩ := Option.isSome_iff_exists.1 hs
      obtain ⟨oj, xj, h1, h2, h3, _⟩ := fv_some hv
      rw [ho] at h1; cases h1
      exact absurd h3 ht
    · simp [hne]
  have hD1 : ∀ id, id ∈ x.reads → (∀ j, (i, j) ∈ softP xs → D j = false) → mD os xs S D id = S'.mem id := by
    intro id hid hns
    unfold mD St.mem ofOut
    rw [hSm id]
    congr 2
    rw [← lastM_lt (n := os.length) (Nat.le_of_lt hil)]
    refine lastM_congr fun j hj hs => ?_
    obtain ⟨v, hv⟩ := Option.isSome_iff_exists.1 hs
    obtain ⟨xj, h2, h3⟩ := fm_some hv
    obtain ⟨oj, h1⟩ : ∃ oj, os[j]? = some oj := ⟨os[j], List.getElem?_eq_getElem hj⟩
    obtain ⟨Sj, hOj⟩ := hokj j oj xj h1 h2
    have hwj := out_writes hOj h3
    by_cases hsp : (i, j) ∈ softP xs
    · obtain ⟨x0, id0, ob0, k1, k2⟩ := softP_mem.1 hsp
      have := (hsoft.get (softs_mem.2 ⟨x0, k1, k2⟩)).1
      rw [hns j hsp]
      dsimp only at this
      simp; omega
    · refine done_iff hok hdn ho hi hr h1 fun hne => ⟨fun _ => ?_, fun _ => ?_⟩
      · unfold confl
        rw [soften_snd, hti, htrj j xj h2, meets_of (a := (xj.reads, xj.writes).2) (x := id) hwj (by simp [hid])]; simp
      · unfold confl
        have e : soften (softP xs) i j ((xs.map tre).getD i ([], [])) = (xs.map tre).getD i ([], []) := by
          unfold soften; rw [if_neg (by simpa [List.contains_iff_mem] using hsp)]
        rw [e, hti, htrj j xj h2, meets_of (a := (x.reads, x.writes).1) (x := id) hid hwj]; simp
  -- a softened reader whose writer has been
  have hD2 : ∀ j id ob2, x.sf = some (j, id, ob2) → x.reads = [id] → D j = true → mD os xs S D id = some ob2 := by
    intro j id ob2 hsf hrd hDj
    obtain ⟨k1, y, k2, k3⟩ := hsoft.get (softs_mem.2 ⟨x, hx, hsf⟩)
    dsimp only at k1 k2 k3
    have hjl : j < os.length := by have := (List.getElem?_eq_some_iff.1 k2).1; omega
    have hlast : lastM (fm xs id) D os.length = some (some ob2) := by
      refine lastM_at hjl ?_ hDj (by unfold fm; rw [k2]; exact k3)
      intro q hq hs hDq
      rcases Nat.lt_or_ge j q with hlt | hge
      · exfalso
        obtain ⟨v, hv⟩ := Option.isSome_iff_exists.1 hs
        obtain ⟨xq, h2, h3⟩ := fm_some hv
        obtain ⟨oq, h1⟩ : ∃ oq, os[q]? = some oq := ⟨os[q], List.getElem?_eq_getElem hq⟩
        obtain ⟨Sq, hOq⟩ := hokj q oq xq h1 h2
        have hwq := out_writes hOq h3
        have hsp : (i, q) ∉ softP xs := by
          intro h
          obtain ⟨x0, id0, ob0, e1, e2⟩ := softP_mem.1 h
          rw [hx] at e1; cases e1
          rw [hsf] at e2
          simp only [Option.some.injEq, Prod.mk.injEq] at e2
          omega
        have := done_iff hok hdn ho hi hr h1 fun hne => ⟨fun _ => by
            unfold confl
            rw [soften_snd, hti, htrj q xq h2, meets_of (a := (xq.reads, xq.writes).2) (x := id) hwq (by simp [hrd])]; simp, fun _ => by
            unfold confl
            have e : soften (softP xs) i q ((xs.map tre).getD i ([], [])) = (xs.map tre).getD i ([], []) := by
              unfold soften; rw [if_neg (by simpa [List.contains_iff_mem] using hsp)]
            rw [e, hti, htrj q xq h2, meets_of (a := (x.reads, x.writes).1) (x := id) (by simp [hrd]) hwq]; simp⟩
        rw [hDq] at this
        have : q < i := by simpa using this.symm
        omega
      · exact hge
    unfold mD
    rw [hlast]; rfl
  have hEm : ∀ id v, fm xs id i = some v → lastM (fm xs id) (fun j => D j || (j == i)) os.length = some v := by
    intro id v hv
    have hwi : id ∈ x.writes := by
      obtain ⟨xi, h2, h3⟩ := fm_some hv
      rw [hx] at h2; cases h2
      exact out_writes hOk h3
    refine lastM_at hil ?_ (by simp) hv
    intro j hj hs hDj'
    obtain ⟨v', hv'⟩ := Option.isSome_iff_exists.1 hs
    obtain ⟨xj, h2, h3⟩ := fm_some hv'
    obtain ⟨oj, h1⟩ : ∃ oj, os[j]? = some oj := ⟨os[j], List.getElem?_eq_getElem hj⟩
    obtain ⟨Sj, hOj⟩ := hokj j oj xj h1 h2
    have hwj := out_writes hOj h3
    by_cases hne : j = i
    · omega
    · have hDj : D j = true := by simpa [hne] using hDj'
      have := done_iff hok hdn ho hi hr h1 fun _ => ⟨fun _ => by
          unfold confl
          rw [soften_snd, hti, htrj j xj h2, meets_of (a := (xj.reads, xj.writes).2) (x := id) hwj (by simp [hwi])]; simp, fun _ => by
          unfold confl
          rw [soften_snd, hti, htrj j xj h2, meets_of (a := (x.reads, x.writes).2) (x := id) hwi (by simp [hwj])]; simp⟩
      rw [hDj] at this
      have : j < i := by simpa using this.symm
      omega
  have hFm : ∀ id, fm xs id i = none → lastM (fm xs id) (fun j => D j || (j == i)) os.length = lastM (fm xs id) D os.length := by
    intro id h0
    refine lastM_congr fun j hj hs => ?_
    by_cases hne : j = i
    · subst hne; rw [h0] at hs; cases hs
    · simp [hne]
  have hsim := hinv.sim
  have hwant := wanted_of_guardF (a := a) hOk.guard (fun d b hd hb => by
    have h1 : frD os xs S D d = some (AB b) := by rw [hA d hd]; exact hb
    obtain ⟨h2, h3⟩ := hsim.slots d _ h1
    have h4 := rep_raw h3
    rw [Array.getD_eq_getD_getElem?] at h4
    have hsz := hsim.size
    rw [Array.getElem?_eq_getElem (by omega)] at h4 ⊢
    simpa using h4)
  -- new ids of two operations are not the same
  have hnn : ∀ (j : Nat) (xj : RecD), xs[j]? = some xj → j ≠ i → ∀ id, id ∈ keys xj.nw → id ∉ keys x.nw := by
    intro j xj hj hne id hid hid'
    have hjl : j < os.length := by have := (List.getElem?_eq_some_iff.1 hj).1; omega
    obtain ⟨oj, hoj⟩ : ∃ oj, os[j]? = some oj := ⟨os[j], List.getElem?_eq_getElem hjl⟩
    have hfresh : ∀ {ok : Oper} {xk : RecD} {Sk : St}, Okay E os ok Sk xk → ∀ id', id' ∈ keys xk.nw → id' ∈ Sk.ids → False := by
      intro ok xk Sk h1 id' h2 h3
      cases hon : xk.on with
      | true =>
        have h4 := (h1.yes hon).2.2.2.2
        have := List.all_eq_true.1 h4 id' h2
        simp [List.contains_iff_mem] at this
        exact this h3
      | false => rw [(h1.no hon).2.2.2.1] at h2; simp [keys] at h2
    rcases Nat.lt_or_gt_of_ne hne with h | h
    · exact hfresh hOk id hid' (hSn j h xj hj id hid)
    · obtain ⟨Sj, h1, _, _, _, h5⟩ := okAll_get hall hoj hj
      exact hfresh h1 id hid (h5 i h x hx id hid')
  cases hon : x.on with
  | true =>
    rw [if_pos (by rw [hwant, hon])]
    obtain ⟨g1, g2, g3, h4, h5⟩ := hOk.yes hon
    obtain ⟨rd, h1, h2, h3⟩ : ∃ rd, OpS E.P E.G o (aev S'.fr) rd x.wi x.wo x.nw x.v ∧ (∀ id ob, rd.lookup id = some ob → mD os xs S D id = some ob) ∧ (∀ id ob, x.wi.lookup id = some ob → mD os xs S D id = some ob) := by
      have hplain : (∀ j, (i, j) ∈ softP xs → D j = false) → ∃ rd, OpS E.P E.G o (aev S'.fr) rd x.wi x.wo x.nw x.v ∧ (∀ id ob, rd.lookup id = some ob → mD os xs S D id = some ob) ∧ (∀ id ob, x.wi.lookup id = some ob → mD os xs S D id = some ob) := by
        intro hns
        refine ⟨x.rd, g1, fun id ob hl => ?_, fun id ob hl => ?_⟩
        · rw [hD1 id (by unfold RecD.reads; rw [List.mem_append]; left; rw [lookup_keys, hl]; rfl) hns]
          exact g2.get hl
        · rw [hD1 id (by unfold RecD.reads; rw [List.mem_append]; right; rw [lookup_keys, hl]; rfl) hns]
          exact g3.get hl
      cases hsf : x.sf with
      | none =>
        refine hplain fun j hj => ?_
        obtain ⟨x0, id0, ob0, e1, e2⟩ := softP_mem.1 hj
        rw [hx] at e1; cases e1
        rw [hsf] at e2; cases e2
      | some q =>
        obtain ⟨j, id, ob2⟩ := q
        cases hDj : D j with
        | false =>
          refine hplain fun j' hj => ?_
          obtain ⟨x0, id0, ob0, e1, e2⟩ := softP_mem.1 hj
          rw [hx] at e1; cases e1
          rw [hsf] at e2
          simp only [Option.some.injEq, Prod.mk.injEq] at e2
          rw [← e2.1]; exact hDj
        | true =>
          obtain ⟨k1, k2, k3, k4, k5⟩ := hOk.soft j id ob2 hsf
          have hrd : x.reads = [id] := by unfold RecD.reads; rw [k1, k2]; rfl
          refine ⟨[(id, ob2)], by rw [k2, k3, k4]; exact k5, fun id' ob hl => ?_, fun id' ob hl => by rw [k2] at hl; cases hl⟩
          rw [List.lookup_cons] at hl
          split at hl
          · rename_i he
            have he : id' = id := by simpa using he
            cases hl
            rw [he]
            exact hD2 j id ob2 hsf hrd hDj
          · cases hl
    refine hsim.op (ids' := (stAt os xs S).ids) (frf' := frD os xs S fun j => D j || (j == i)) (mf' := mD os xs S fun j => D j || (j == i)) ?_ h1 ?_ ?_ h4 (hinv.undone i x hx hi) hOk.dst ?_ ?_ ?_ ?_
    · intro y hy u hu
      cases y with
      | tmp t =>
        have ht : t ∈ slotsOf os o := by
          unfold slotsOf
          rw [List.mem_append]
          left
          rw [List.mem_filterMap]
          exact ⟨.tmp t, hy, rfl⟩
        have : frD os xs S D t = some u := by rw [hA t ht]; exact hu
        exact (hsim.slots t u this).2
      | const c =>
        simp only [aev] at hu
        split at hu
        · rename_i h6; cases hu; exact rep_raw_mk (okVB_ok h6)
        · cases hu
      | global g => simp only [aev, Option.some.injEq] at hu; subst hu; exact rep_raw_mk rfl
      | func f => simp only [aev, Option.some.injEq] at hu; subst hu; exact rep_raw_mk rfl
    · exact h2
    · exact h3
    · intro id hid
      rcases hid with hid | hid
      · exact hid
      · exact (stAt_look hlen).2.2.2 x (List.mem_of_getElem? hx) id hid
    · intro t u hu
      by_cases ht : o.dst = some t
      · left
        unfold frD at hu
        rw [hB t ht] at hu
        simp at hu
        exact ⟨ht, hu.symm⟩
      · right
        unfold frD at hu ⊢
        rw [hC t ht] at hu
        exact ⟨ht, hu⟩
    · intro id
      cases hfm : fm xs id i with
      | some v =>
        have h6 := hEm id v hfm
        unfold mD
        rw [h6]
        have h7 : (lift x.nw ++ x.wo).lookup id = some v := by
          obtain ⟨xi, k1, k2⟩ := fm_some hfm
          rw [hx] at k1; cases k1; exact k2
        unfold putM outs
        rw [← List.append_assoc, lookup_append, h7]
        simp
      | none =>
        have h6 := hFm id hfm
        have h7 : (lift x.nw ++ x.wo).lookup id = none := by unfold fm at hfm; rw [hx] at hfm; exact hfm
        unfold putM outs
        rw [← List.append_assoc, lookup_append, h7, Option.none_or, lookup_lift]
        have h8 : mD os xs S (fun j => D j || (j == i)) id = mD os xs S D id := by unfold mD; rw [h6]
        rw [h8]
        cases hrd : rd.lookup id with
        | none => rfl
        | some ob =>
          simp only [Option.map_some]
          exact h2 id ob hrd
    · intro a' w' φ' F' hs' hlat hnone
      refine hK a' w' φ' F' ⟨hs', ?_⟩
      intro j xj hj hDj id hid
      have hne : j ≠ i := by intro e; subst e; simp at hDj
      have hDj' : D j = false := by simpa [hne] using hDj
      exact hnone id (hnn j xj hj hne id hid) (hinv.undone j xj hj hDj' id hid)
  | false =>
    rw [if_neg (by rw [hwant, hon]; simp)]
    obtain ⟨h1, h2, h3, h4, h5⟩ := hOk.no hon
    have hfm0 : ∀ id, fm xs id i = none := by intro id; unfold fm; rw [hx]; simp only; rw [h3, h4]; rfl
    have hmD : mD os xs S (fun j => D j || (j == i)) = mD os xs S D := by
      funext id; unfold mD; rw [hFm id (hfm0 id)]
    refine hK _ w φ F ⟨⟨by rw [Act.put_defers]; exact hsim.defers, by rw [Act.put_size]; exact hsim.size, ?_, by rw [hmD]; exact hsim.mem, hsim.dom, hsim.root, by rw [hmD]; exact hsim.since⟩, ?_⟩
    · intro t u hu
      by_cases ht : o.dst = some t
      · have hlt : t < E.N := by have := hOk.dst; rw [ht] at this; simpa [dstOk] using this
        unfold frD at hu
        rw [hB t ht] at hu
        simp at hu
        refine ⟨hlt, ?_⟩
        rw [ht, Act.put_getD _ _ _ _ (by rw [hsim.size]; exact hlt), if_pos rfl, ← hu, h5]
        exact rep_tup0
      · have hu' : frD os xs S D t = some u := by unfold frD at hu ⊢; rw [hC t ht] at hu; exact hu
        obtain ⟨h6, h7⟩ := hsim.slots t u hu'
        refine ⟨h6, ?_⟩
        cases hd : o.dst with
        | none => exact h7
        | some d =>
          have hdlt : d < E.N := by have := hOk.dst; rw [hd] at this; simpa [dstOk] using this
          rw [Act.put_getD _ _ _ _ (by rw [hsim.size]; exact hdlt), if_neg (fun e => ht (by rw [hd, e]))]
          exact h7
    · intro j xj hj hDj id hid
      have hne : j ≠ i := by intro e; subst e; simp at hDj
      exact hinv.undone j xj hj (by simpa [hne] using hDj) id hid
end step

/-! ### all orders -/
theorem countP_lt {α : Type} {p q : α → Bool} (hpq : ∀ a, p a = true → q a = true) : ∀ {l : List α} {a : α}, a ∈ l → q a = true → p a = false → l.countP p < l.countP q
  | b :: l, a, hm, hq, hp => by
    rw [List.countP_cons, List.countP_cons]
    have hle : l.countP p ≤ l.countP q := List.countP_mono_left fun x _ h => hpq x h
    rcases List.mem_cons.1 hm with rfl | hm
    · rw [hq, hp]; simp; omega
    · have ih := countP_lt hpq hm hq hp
      have : (if p b = true then 1 else 0) ≤ (if q b = true then 1 else 0) := by
        by_cases h : p b = true
        · rw [if_pos h, if_pos (hpq b h)]; exact Nat.le_refl _
        · rw [if_neg h]; exact Nat.zero_le _
      omega

theorem go_acc (m : Region.Mode) (ops : Array Oper) : ∀ (fuel t : Nat) (listed : Array Bool) (acc : List Nat), Region.linearise.go m ops fuel t listed acc = acc.reverse ++ Region.linearise.go m ops fuel t listed []
  | 0, _, _, acc => by simp [Region.linearise.go]
  | fuel + 1, t, listed, acc => by
    simp only [Region.linearise.go]
    split
    · rename_i i _
      rw [go_acc m ops fuel _ _ (i :: acc), go_acc m ops fuel _ _ [i]]
      simp
    · simp

theorem inv_all {E : Env} {os : List Oper} {xs : List RecD} {S : St} (hall : OkAll E os os xs S) (hlen : xs.length = os.length) (hsoft : SoftAll xs (softs xs)) (hok : orderOk os xs = true) {Q : Exit → St → Prop} (hQ : Q .normal (stAt os xs S)) :
    ∀ (m : Region.Mode) (fuel t : Nat) (listed : Array Bool), listed.size = os.length → Down os (fun j => listed.getD j false) → ((List.range os.length).countP fun j => !listed.getD j false) ≤ fuel → ∀ a w φ F, InvD E os xs S (fun j => listed.getD j false) a w φ F →
      wpOps E.P os.toArray (conc E Q) (Region.linearise.go m os.toArray fuel t listed []) a w := by
  have hfin : ∀ (listed : Array Bool), ((List.range os.length).countP fun j => !listed.getD j false) = 0 → ∀ a w φ F, InvD E os xs S (fun j => listed.getD j false) a w φ F → conc E Q .normal a w := by
    intro listed hc a w φ F hinv
    have hD : ∀ j, j < os.length → listed.getD j false = true := by
      intro j hj
      rw [List.countP_eq_zero] at hc
      have := hc j (by simpa using hj)
      simpa using this
    refine ⟨stAt os xs S, φ, F, hQ, SimR.toS ?_⟩
    have h1 : frD os xs S (fun j => listed.getD j false) = fun t => (stAt os xs S).fr.lookup t := by
      funext t
      unfold frD
      rw [(stAt_look hlen).1 t]
      congr 1
      exact lastM_congr fun j hj _ => hD j hj
    have h2 : mD os xs S (fun j => listed.getD j false) = (stAt os xs S).mem := by
      funext id
      unfold mD St.mem ofOut
      rw [(stAt_look hlen).2.1 id]
      congr 2
      exact lastM_congr fun j hj _ => hD j hj
    have := hinv.sim
    rw [h1, h2] at this
    exact this
  intro m fuel
  have hbm : ∀ e, Region.binds .any e = true → Region.binds m e = true := by
    intro e he
    obtain ⟨on, gr⟩ := e
    unfold Region.binds at he ⊢
    cases gr <;> first | rfl | (exfalso; revert he; decide) | cases he
  induction fuel with
  | zero =>
    intro t listed hsz hdn hc a w φ F hinv
    simp only [Region.linearise.go, List.reverse_nil, wpOps]
    exact hfin listed (by omega) a w φ F hinv
  | succ fuel ih =>
    intro t listed hsz hdn hc a w φ F hinv
    obtain ⟨ρ, hedge⟩ := (orderOk_spec hok).1 m
    simp only [Region.linearise.go]
    split
    · rename_i i hget
      rw [go_acc]
      simp only [List.reverse_cons, List.reverse_nil, List.nil_append, List.singleton_append, wpOps]
      have hmem := List.mem_of_getElem? hget
      rw [List.mem_filter] at hmem
      obtain ⟨hm1, hm2⟩ := hmem
      have hi : i < os.length := by simpa using hm1
      obtain ⟨o, ho⟩ : ∃ o, os[i]? = some o := ⟨os[i], List.getElem?_eq_getElem hi⟩
      have hoa : os.toArray[i]? = some o := by simpa using ho
      simp only [hoa, Option.map_some, Option.getD_some, Bool.and_eq_true, Bool.not_eq_true'] at hm2
      have hDi : listed.getD i false = false := by
        have := hm2.1
        rw [Array.getD_eq_getD_getElem?] at this ⊢
        rw [Array.getElem?_eq_getElem (by omega)] at this ⊢
        simpa using this
      have hr : ∀ e ∈ edges o, listed.getD e false = true := by
        intro e he
        unfold edges at he
        simp only [List.mem_map, List.mem_filter] at he
        obtain ⟨ed, ⟨h1, h2⟩, rfl⟩ := he
        have h3 := Array.all_eq_true_iff_forall_mem.1 hm2.2 ed (by simpa using h1)
        simpa [hbm ed h2] using h3
      have hset : ∀ j, (listed.setIfInBounds i true).getD j false = (listed.getD j false || (j == i)) := by
        intro j
        simp only [Array.getD_eq_getD_getElem?, Array.getElem?_setIfInBounds]
        by_cases hji : i = j
        · subst hji
          have hlt : i < listed.size := by omega
          simp [hlt]
        · rw [if_neg hji]
          have : (j == i) = false := by simpa using fun e => hji e.symm
          simp [this]
      have hDeq : (fun j => (listed.setIfInBounds i true).getD j false) = fun j => listed.getD j false || (j == i) := funext hset
      have hnext : ∀ a' w' φ' F', InvD E os xs S (fun j => listed.getD j false || (j == i)) a' w' φ' F' → wpOps E.P os.toArray (conc E Q) (Region.linearise.go m os.toArray fuel (t / ((List.range os.toArray.size).filter fun i => !listed.getD i true && ((os.toArray[i]?).map (·.after.all fun e => !Region.binds m e || listed.getD e.on false)).getD false).length) (listed.setIfInBounds i true) []) a' w' := by
        intro a' w' φ' F' hinv'
        refine ih _ _ (by simpa using hsz) ?_ ?_ a' w' φ' F' (by rw [hDeq]; exact hinv')
        · intro j oj hj hoj e he
          show (listed.setIfInBounds i true).getD e false = true
          have hj' : (listed.getD j false || (j == i)) = true := by rw [← hset]; exact hj
          rw [hset]
          simp only [Bool.or_eq_true, beq_iff_eq] at hj' ⊢
          rcases hj' with h | rfl
          · exact .inl (hdn j oj h hoj e he)
          · rw [ho] at hoj; cases hoj; exact .inl (hr e he)
        · have hlt : (List.range os.length).countP (fun j => !(listed.getD j false || (j == i))) < (List.range os.length).countP fun j => !listed.getD j false := by
            refine countP_lt (fun j hj => by simp only [Bool.not_or, Bool.and_eq_true, Bool.not_eq_true'] at hj ⊢; exact hj.1) (a := i) (by simpa using hi) (by simp only [hDi]; rfl) (by simp)
          have heq : (List.range os.length).countP (fun j => !(listed.setIfInBounds i true).getD j false) = (List.range os.length).countP fun j => !(listed.getD j false || (j == i)) := by
            congr 1; funext j; rw [hset]
          omega
      have hstep := inv_step hall hlen hsoft hok hdn hinv ho hDi hr hnext (Q := conc E Q)
      simp only [hoa]
      split at hstep
      · rename_i hw; rw [if_pos hw]; exact .inl hstep
      · rename_i hw; rw [if_neg hw]; exact hstep
    · rename_i hnone
      simp only [List.reverse_nil, wpOps]
      refine hfin listed ?_ a w φ F hinv
      -- nothing is ready: all is done
      rw [List.countP_eq_zero]
      intro j hj
      have hjl : j < os.length := by simpa using hj
      have hempty : ((List.range os.toArray.size).filter fun i => !listed.getD i true && ((os.toArray[i]?).map (·.after.all fun e => !Region.binds m e || listed.getD e.on false)).getD false) = [] := by
        cases hl : ((List.range os.toArray.size).filter fun i => !listed.getD i true && ((os.toArray[i]?).map (·.after.all fun e => !Region.binds m e || listed.getD e.on false)).getD false) with
        | nil => rfl
        | cons q r =>
          rw [hl] at hnone
          have := Nat.mod_lt t (show 0 < (q :: r).length by simp)
          rw [List.getElem?_eq_none_iff] at hnone
          omega
      have key : ∀ n j, ρ j < n → j < os.length → listed.getD j false = true := by
        intro n
        induction n with
        | zero => intro j hj; omega
        | succ n ihn =>
          intro j hj hjl
          rcases Bool.eq_false_or_eq_true (listed.getD j false) with h | h
          · exact h
          · exfalso
            obtain ⟨oj, hoj⟩ : ∃ oj, os[j]? = some oj := ⟨os[j], List.getElem?_eq_getElem hjl⟩
            have hoja : os.toArray[j]? = some oj := by simpa using hoj
            have hmem : j ∈ ((List.range os.toArray.size).filter fun i => !listed.getD i true && ((os.toArray[i]?).map (·.after.all fun e => !Region.binds m e || listed.getD e.on false)).getD false) := by
              rw [List.mem_filter]
              refine ⟨by simpa using hjl, ?_⟩
              simp only [hoja, Option.map_some, Option.getD_some, Bool.and_eq_true, Bool.not_eq_true']
              refine ⟨?_, ?_⟩
              · rw [Array.getD_eq_getD_getElem?] at h ⊢
                rw [Array.getElem?_eq_getElem (by omega)] at h ⊢
                simpa using h
              · rw [Array.all_eq_true_iff_forall_mem]
                intro ed hed
                by_cases hb : Region.binds m ed = true
                · have := hedge j oj hoj ed (by simpa using hed) hb
                  simp [ihn ed.on (by omega) (by omega)]
                · simp [hb]
            rw [hempty] at hmem
            simp at hmem
      simpa using key (ρ j + 1) j (by omega) hjl

theorem drew_sim {E : Env} {S : St} {a : Act} {w : World} {φ F} (h : Sim E S a w φ F) : Sim E S a { w with drawn := w.drawn + 1 } φ F := by
  have hl : Later φ F w φ F { w with drawn := w.drawn + 1 } := ⟨fun _ h => h, fun _ _ => rfl, fun _ _ h => h⟩
  refine ⟨h.defers, h.size, fun t v ht => ⟨(h.slots t v ht).1, repAV.later hl _ _ (h.slots t v ht).2⟩, ⟨?_, h.mem.live, h.mem.inj, h.mem.frz, h.mem.amb⟩, h.dom, h.root, ?_⟩
  · intro id o hid
    obtain ⟨r, hr, ho⟩ := h.mem.obj id o hid
    exact ⟨r, hr, objRep.later hl (fun _ _ => rfl) ho⟩
  · exact ⟨h.since.os, h.since.tape, h.since.output, h.since.size, h.since.keep, h.since.frz, h.since.frzNew, h.since.live, h.since.ids⟩

/-- A region whose order is drawn. -/
theorem awp_drawS {E : Env} {ops : List Oper} {Q : Exit → St → Prop} {S : St} {id : Nat} (h : ALex E ops ops [] S (fun xs S' => orderOk ops xs = true ∧ SoftAll xs (softs xs) ∧ Q .normal S')) : AWP E (.region id ops.toArray true) Q S := by
  intro a w φ F hs
  refine wp_region_draw fun t => ?_
  obtain ⟨xs, h1, h2, h3, h3', h4⟩ := alex_recs h
  simp only [List.nil_append] at h3 h3'
  have hsch : ∀ mx, ∃ m t', Region.schedule mx ops.toArray t = Region.linearise m ops.toArray t' := by
    intro mx
    unfold Region.schedule
    split
    · exact ⟨_, _, rfl⟩
    · exact ⟨_, _, rfl⟩
  obtain ⟨m, t', hsch⟩ := hsch (E.P.follows .mixedOrders)
  rw [hsch]
  unfold Region.linearise
  have hs' := drew_sim hs
  have hD0 : (fun j => (Array.replicate ops.toArray.size false).getD j false) = fun _ => false := by
    funext j
    rw [Array.getD_eq_getD_getElem?, Array.getElem?_replicate]
    split <;> rfl
  have hl0 : ∀ {β : Type} (f : Nat → Option β) (n : Nat), lastM f (fun _ => false) n = none := by
    intro β f n
    induction n with
    | zero => rfl
    | succ n ih => simp [lastM, ih]
  have hfresh : ∀ (i : Nat) (x : RecD), xs[i]? = some x → ∀ id ∈ keys x.nw, id ∉ S.ids := by
    intro i x hx id hid hin
    have hil : i < ops.length := by have := (List.getElem?_eq_some_iff.1 hx).1; omega
    obtain ⟨S', k1, _, _, k4, _⟩ := okAll_get h1 (List.getElem?_eq_getElem hil) hx
    cases hon : x.on with
    | true =>
      have k5 := (k1.yes hon).2.2.2.2
      have := List.all_eq_true.1 k5 id hid
      simp [List.contains_iff_mem] at this
      exact this (k4 id hin)
    | false => rw [(k1.no hon).2.2.2.1] at hid; simp [keys] at hid
  refine inv_all h1 h2 h3' h3 h4 m _ t' _ (by simp) ?_ ?_ a _ φ F ⟨⟨hs'.defers, hs'.size, ?_, ?_, ?_, hs'.root, ?_⟩, ?_⟩
  · rw [hD0]; intro j o hj; cases hj
  · have := List.countP_le_length (p := fun j => !(Array.replicate ops.toArray.size false).getD j false) (l := List.range ops.length)
    simpa using this
  · intro t v hv
    rw [hD0] at hv
    unfold frD at hv
    rw [hl0] at hv
    exact hs'.slots t v (by simpa using hv)
  · have : mD ops xs S (fun j => (Array.replicate ops.toArray.size false).getD j false) = S.mem := by
      rw [hD0]; funext id; unfold mD; rw [hl0]; rfl
    rw [this]; exact hs'.mem
  · intro id r hr
    exact (stAt_look h2).2.2.1 id (hs'.dom id r hr)
  · have : mD ops xs S (fun j => (Array.replicate ops.toArray.size false).getD j false) = S.mem := by
      rw [hD0]; funext id; unfold mD; rw [hl0]; rfl
    rw [this]; exact hs'.since
  · intro i x hx _ id hid
    cases hφ : φ id with
    | none => rfl
    | some r => exact absurd (hs'.dom id r hφ) (hfresh i x hx id hid)
/-- The same, where no pair was softened. -/
theorem awp_draw {E : Env} {ops : List Oper} {Q : Exit → St → Prop} {S : St} {id : Nat} (h : ALex E ops ops [] S (fun xs S' => orderOk ops xs = true ∧ softs xs = [] ∧ Q .normal S')) : AWP E (.region id ops.toArray true) Q S := by
  refine awp_drawS ?_
  have hm : ∀ {rest : List Oper} {tr : List RecD} {S : St} {K K' : List RecD → St → Prop}, (∀ xs S, K xs S → K' xs S) → ALex E ops rest tr S K → ALex E ops rest tr S K' := by
    intro rest
    induction rest with
    | nil => intro tr S K K' hk h; exact hk _ _ h
    | cons o rest ih => intro tr S K K' hk h; obtain ⟨x, hx, h⟩ := h; exact ⟨x, hx, ih hk h⟩
  exact hm (fun xs S ⟨h1, h2, h3⟩ => ⟨h1, by rw [h2]; trivial, h3⟩) h
end Go.Bw
