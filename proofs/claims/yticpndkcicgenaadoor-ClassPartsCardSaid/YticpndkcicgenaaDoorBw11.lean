/- Abstract walk over contents given by functions, part 11: maps; equality of values of several cells. -/
import Derived.Test.YticpndkcicgenaaDoorBw10
import Derived.DeepKeys5
import Derived.StringKeys
set_option linter.unusedVariables false
set_option linter.unusedSimpArgs false
namespace Go.Bw
open Go.RowKit Go.WideMaps

def isKey (P : Program) (K : TypeId) (v : Value) : Prop := ∃ l, keyOf P K v = some l
/-- What a map's operations need of its keys' type. -/
structure KL (P : Program) (K : TypeId) : Prop where
  check : ∀ (w : World) (em : Bool) {v : Value}, isKey P K v → (Instr.checkKey em 10000 K v).run P w = .ok () w
  find : ∀ (w : World) {x : Value}, isKey P K x → ∀ es : List MapEntry, (∀ e ∈ es, isKey P K e.key) →
    ((Instr.findKey K x es).run P w = .ok none w ∧ ∀ e ∈ es, e.key ≠ x) ∨ ∃ j e, (Instr.findKey K x es).run P w = .ok (some (j, e.val)) w ∧ es[j]? = some e ∧ e.key = x
  stays : ∀ (w : World) {v : Value}, isKey P K v → (Instr.keyThatStays v v).run P w = .ok v w
theorem KL.of_law {P K} (h : KeyLaw P K) : KL P K :=
  ⟨fun w em v ⟨l, hl⟩ => h.check w em hl, fun w x ⟨l, hl⟩ es he => h.find w hl es he, fun w v ⟨l, hl⟩ => h.stays w hl⟩
theorem KL.deep {P K} (hl : laidOutB P = true) (hsmall : P.types.size + 2 ≤ 10000) (hrow : K < P.types.size) (hk : P.keyType K = true) (hwide : (match P.underlying K with | some (.array _ _) | some (.struct _) => true | _ => false) = true) : KL P K :=
  .of_law (deep_law_gate hl hsmall hrow hk hwide)
theorem KL.str {P K} (h : P.underlying K = some .string) : KL P K := .of_law (string_law h)

/-- A value as a slot holds it. -/
def AV.ofV : Value → AV
  | .agg ⟨l⟩ => .agg l.length fun j => .d (.raw (nth undef l j))
  | v => .one (.d (.raw v))
theorem rep_ofV {φ F w} {v : Value} (h : okM v) : repAV φ F w (AV.ofV v) v := by
  cases v with
  | agg cs =>
    obtain ⟨l⟩ := cs
    simp only [AV.ofV, repAV]
    refine ⟨l, rfl, rfl, fun j v hv => ?_⟩
    have hj := (List.getElem?_eq_some_iff.1 hv).1
    have := nth_get (d := undef) hj
    rw [hv] at this
    cases this
    simp only [repC, repD]
    exact ⟨trivial, h _ (List.mem_of_getElem? hv)⟩
  | tuple vs => exact h.elim
  | _ => exact rep_raw_mk h
def C.toV : C → Value
  | .d (.raw v) => v
  | _ => undef
def C.isRaw : C → Bool
  | .d (.raw _) => true
  | _ => false
/-- What a slot holds, as a value: of raw cells alone. -/
def valOf : AV → Option Value
  | .one (.d (.raw v)) => some v
  | .agg k g => match allTo k fun j => (g j).isRaw with
    | true => some (.agg ⟨tolist k fun j => (g j).toV⟩)
    | false => none
  | _ => none
theorem tolist_get {α : Type} : ∀ {n : Nat} {g : Nat → α} {j : Nat}, j < n → (tolist n g)[j]? = some (g j)
  | 0, g, j, h => by omega
  | n + 1, g, 0, h => rfl
  | n + 1, g, j + 1, h => by
    simp only [tolist, List.getElem?_cons_succ]
    exact tolist_get (g := fun j => g (j + 1)) (by omega)
theorem tolist_length {α : Type} : ∀ {n : Nat} {g : Nat → α}, (tolist n g).length = n
  | 0, g => rfl
  | n + 1, g => by simp only [tolist, List.length_cons]; rw [tolist_length]
theorem repC_raw {φ F w} {c : C} {u : Value} (h : c.isRaw = true) (hr : repC φ F w c u) : u = c.toV ∧ okV u := by
  cases c with
  | d x =>
    cases x with
    | raw v => simp only [repC, repD] at hr; exact ⟨hr.1, by rw [hr.1]; exact hr.2⟩
    | _ => cases h
  | _ => cases h
theorem valOf_rep {φ F w} {a : AV} {v u : Value} (h : valOf a = some v) (hr : repAV φ F w a u) (ht : ∀ vs, v ≠ .tuple vs) : u = v ∧ okM u := by
  unfold valOf at h
  split at h
  · cases h
    have h1 := rep_raw hr
    have h2 := rep_ok hr
    subst h1
    refine ⟨rfl, ?_⟩
    cases u with
    | agg cs => exact absurd h2.one (by simp [Value.oneCell'])
    | tuple vs => exact absurd rfl (ht vs)
    | _ => exact h2
  · split at h
    · rename_i k g _ hall
      cases h
      simp only [repAV] at hr
      obtain ⟨us, rfl, h1, h2⟩ := hr
      have hlen : us.length = (tolist k fun j => (g j).toV).length := by rw [tolist_length, h1]
      have he : us = tolist k fun j => (g j).toV := by
        apply List.ext_getElem?
        intro j
        by_cases hj : j < k
        · have hju : j < us.length := by omega
          rw [tolist_get hj, List.getElem?_eq_getElem hju, (repC_raw (allTo_spec hall j hj) (h2 j _ (List.getElem?_eq_getElem hju))).1]
        · rw [List.getElem?_eq_none (by omega), List.getElem?_eq_none (by rw [tolist_length]; omega)]
      refine ⟨by rw [he], ?_⟩
      intro v hv
      obtain ⟨j, hj, rfl⟩ := List.getElem_of_mem (show v ∈ us from hv)
      exact (repC_raw (allTo_spec hall j (by omega)) (h2 j _ (List.getElem?_eq_getElem hj))).2
    · cases h
  · cases h

open Classical in
/-- Where a key is, and what is there. -/
noncomputable def mfind (k : Value) : List (Value × Value) → Option (Nat × Value)
  | [] => none
  | p :: l => if p.1 = k then some (0, p.2) else (mfind k l).map fun q => (q.1 + 1, q.2)
theorem mfind_some {k : Value} : ∀ {l : List (Value × Value)} {i : Nat} {u : Value}, mfind k l = some (i, u) → l[i]? = some (k, u)
  | [], i, u, h => by simp [mfind] at h
  | p :: l, i, u, h => by
    unfold mfind at h
    split at h
    · rename_i hp; cases h; cases hp; rfl
    · obtain ⟨⟨i', u'⟩, h1, h2⟩ := Option.map_eq_some_iff.1 h
      cases h2
      exact mfind_some (l := l) h1
theorem mfind_none {k : Value} : ∀ {l : List (Value × Value)}, mfind k l = none → ∀ p ∈ l, p.1 ≠ k
  | [], _, p, h => by cases h
  | q :: l, h, p, hp => by
    unfold mfind at h
    split at h
    · cases h
    · rename_i hq
      rcases List.mem_cons.1 hp with rfl | hp
      · exact hq
      · exact mfind_none (Option.map_eq_none_iff.1 h) p hp
theorem mfind_none_mk {k : Value} : ∀ {l : List (Value × Value)}, (∀ p ∈ l, p.1 ≠ k) → mfind k l = none
  | [], _ => rfl
  | q :: l, h => by
    unfold mfind
    rw [if_neg (h q (by simp)), mfind_none_mk fun p hp => h p (by simp [hp])]
    rfl
theorem mfind_some_mk {k u : Value} : ∀ {l : List (Value × Value)} {i : Nat}, l[i]? = some (k, u) → (l.map (·.1)).Nodup → mfind k l = some (i, u)
  | [], i, h, _ => by simp at h
  | p :: l, 0, h, _ => by simp at h; subst h; simp [mfind]
  | p :: l, i + 1, h, hn => by
    simp only [List.map_cons, List.nodup_cons] at hn
    have h1 := mfind_some_mk (l := l) (i := i) (by simpa using h) hn.2
    unfold mfind
    rw [if_neg, h1]
    · rfl
    · intro e
      apply hn.1
      rw [e]
      exact List.mem_map.2 ⟨(k, u), List.mem_of_getElem? (by simpa using h : l[i]? = some (k, u)), rfl⟩

section
variable {P : Program} {G : List (Addr × Value)} {o : Oper} {ae : Operand → Option AV} {x y z s : Operand} {v : AV} {T yT : TypeId}

theorem OpS.mkMap (id : Id) (ok : Value → Prop) (ho : o.op = .makeMap T none) : OpS P G o ae [] [] [] [(id, .map ok [])] (.one (.mp id)) :=
  .new fun φ F w ρ hs hop hid => by
    refine ⟨.map (some w.heap.size), .map #[] 0, ⟨some w.heap.size, 0, 0, nofun⟩, ?_, rfl, ?_, ?_⟩
    · unfold execOp
      simp only [ho, Option.map_none, Instr.makeMap, Sem.run_bind, newObj, Sem.run, Sem.run_pure, Result.andThen_ok]
      rfl
    · exact ⟨w.heap.size, #[], rfl, h_alloc_new w _, by simp, by simp, by simp, by simp⟩
    · simp only [repAV, repC]
      exact ⟨_, _, if_pos trivial, rfl, rfl⟩

theorem find_at {K : TypeId} (hkl : KL P K) {es : List MapEntry} {kvs : List (Value × Value)} (he : es.map (fun e => (e.key, e.val)) = kvs) (hnd : (kvs.map (·.1)).Nodup) (hok : ∀ p ∈ kvs, isKey P K p.1 ∧ okM p.2) {i : Nat} {k u : Value} (hi : kvs[i]? = some (k, u)) (w : World) :
    (Instr.findKey K k es).run P w = .ok (some (i, u)) w := by
  have hmem : ∀ e ∈ es, isKey P K e.key := fun e hm => (hok (e.key, e.val) (by rw [← he]; exact List.mem_map.2 ⟨e, hm, rfl⟩)).1
  have hk : isKey P K k := (hok (k, u) (List.mem_of_getElem? hi)).1
  subst he
  simp only [List.getElem?_map, Option.map_eq_some_iff, Prod.mk.injEq] at hi
  obtain ⟨e, h1, h2, h3⟩ := hi
  rcases hkl.find w hk es hmem with ⟨_, h4⟩ | ⟨j, e', h4, h5, h6⟩
  · exact absurd h2 (h4 e (List.mem_of_getElem? h1))
  · have hij : i = j := by
      rw [List.map_map] at hnd
      have a1 : (es.map ((fun x => x.1) ∘ fun e => (e.key, e.val)))[i]? = some k := by simp [h1, h2]
      have a2 : (es.map ((fun x => x.1) ∘ fun e => (e.key, e.val)))[j]? = some k := by simp [h5, h6]
      exact (List.getElem?_inj (List.getElem?_eq_some_iff.1 a1).1 hnd).1 (a1.trans a2.symm)
    subst hij
    rw [h1] at h5; cases h5
    rw [h4, h3]
theorem find_none {K : TypeId} (hkl : KL P K) {es : List MapEntry} {kvs : List (Value × Value)} (he : es.map (fun e => (e.key, e.val)) = kvs) (hok : ∀ p ∈ kvs, isKey P K p.1 ∧ okM p.2) {k : Value} (hk : isKey P K k) (hn : ∀ p ∈ kvs, p.1 ≠ k) (w : World) : (Instr.findKey K k es).run P w = .ok none w := by
  subst he
  rcases hkl.find w hk es (fun e hm => (hok (e.key, e.val) (List.mem_map.2 ⟨e, hm, rfl⟩)).1) with ⟨h, _⟩ | ⟨j, e, _, h5, h6⟩
  · exact h
  · exact absurd h6 (hn (e.key, e.val) (List.mem_map.2 ⟨e, List.mem_of_getElem? h5, rfl⟩))

/-- What a lookup yields. -/
def lookA (c : Bool) (u : Value) (b : Bool) : AV := match c with
  | true => .tup 2 (nth junkA [AV.ofV u, AB b])
  | false => AV.ofV u
theorem lookA_rep {φ F w} {c : Bool} {u : Value} {b : Bool} (hu : okM u) : repAV φ F w (lookA c u b) (if c then .tuple #[u, .bool b] else u) := by
  cases c with
  | true =>
    simp only [lookA, if_true, repAV]
    refine ⟨[u, .bool b], rfl, rfl, fun j v hv => ?_⟩
    match j, hv with
    | 0, hv => simp at hv; subst hv; exact rep_ofV hu
    | 1, hv => simp at hv; subst hv; exact rep_raw_mk rfl
    | j + 2, hv => simp at hv
  | false => exact rep_ofV hu
/-- What an entry's operation yields. -/
def entA (u : Value) (i : Nat) : AV := .tup 2 (nth junkA [AV.ofV u, AI .i64 i])
theorem entA_rep {φ F w} {u : Value} {i : Nat} (hu : okM u) (hi : i ≤ 9223372036854775807) : repAV φ F w (entA u i) (.tuple #[u, .int .i64 i]) := by
  simp only [entA, repAV]
  refine ⟨[u, .int .i64 i], rfl, rfl, fun j v hv => ?_⟩
  match j, hv with
  | 0, hv => simp at hv; subst hv; exact rep_ofV hu
  | 1, hv => simp at hv; subst hv; exact rep_raw_mk (len_ok (by simp only [maxLen]; omega))
  | j + 2, hv => simp at hv
/-- A lookup that finds. -/
theorem OpS.look {id : Id} {K E : TypeId} {X : TI} {kvs : List (Value × Value)} {i : Nat} {k u : Value} {ka : AV} {c : Bool} (hkl : KL P K) (ho : o.op = .lookup T x y c) (hT : tiOf P T = some X) (hX : X.k = .map K E) (hx : ae x = some (.one (.mp id))) (hy : ae y = some ka) (hk : valOf ka = some k) (hkt : ∀ vs, k ≠ .tuple vs) (hi : kvs[i]? = some (k, u))
    (hv : lookA c u true = v) : OpS P G o ae [(id, .map (isKey P K) kvs)] [] [] [] v :=
  .quiet fun φ F w ρ hs hop => by
    have h1 := hop x (by simp [ho, Op.operands]) _ hx
    simp only [repAV, repC] at h1
    obtain ⟨r, b, hr, hb, hxv⟩ := h1
    obtain ⟨rfl, _⟩ := valOf_rep hk (hop y (by simp [ho, Op.operands]) _ hy) hkt
    obtain ⟨r', hr', b', es, k1, k2, k3, k4, k5, k6⟩ := hs.obj id (.map (isKey P K) kvs) (by simp [ofIn, List.lookup_cons])
    rw [hr] at hr'; cases hr'
    rw [hb] at k1; cases k1
    obtain ⟨_, _, _, h4, _, _, _, h5⟩ := tiOf_spec hT
    have h6 := tk_map (h5.trans hX); subst h6
    have hkey : isKey P K (ρ y) := (k6 _ (List.mem_of_getElem? hi)).1
    have hu : okM u := (k6 _ (List.mem_of_getElem? hi)).2
    have hfind := find_at hkl k3 k5 k6 hi w
    refine ⟨if c then .tuple #[u, .bool true] else u, ?_, ?_⟩
    · unfold execOp
      simp only [ho, hxv, Instr.lookup, Sem.run_bind, run_underlying h4, Result.andThen_ok, run_getMap k2, Sem.run_pure, hkl.check w _ hkey, hfind]
    · subst hv
      exact lookA_rep hu
theorem OpS.lookN {id : Id} {K E : TypeId} {X Y : TI} {kvs : List (Value × Value)} {k : Value} {ka : AV} {c : Bool} (hkl : KL P K) (ho : o.op = .lookup T x y c) (hT : tiOf P T = some X) (hX : X.k = .map K E) (hT' : tiOf P E = some Y) (hx : ae x = some (.one (.mp id))) (hy : ae y = some ka) (hk : valOf ka = some k) (hkt : ∀ vs, k ≠ .tuple vs) (hkey : isKey P K k) (hn : ∀ p ∈ kvs, p.1 ≠ k) (hu : okM Y.zero)
    (hv : lookA c Y.zero false = v) : OpS P G o ae [(id, .map (isKey P K) kvs)] [] [] [] v :=
  .quiet fun φ F w ρ hs hop => by
    have h1 := hop x (by simp [ho, Op.operands]) _ hx
    simp only [repAV, repC] at h1
    obtain ⟨r, b, hr, hb, hxv⟩ := h1
    obtain ⟨rfl, _⟩ := valOf_rep hk (hop y (by simp [ho, Op.operands]) _ hy) hkt
    obtain ⟨r', hr', b', es, k1, k2, k3, k4, k5, k6⟩ := hs.obj id (.map (isKey P K) kvs) (by simp [ofIn, List.lookup_cons])
    rw [hr] at hr'; cases hr'
    rw [hb] at k1; cases k1
    obtain ⟨_, _, _, h4, _, _, _, h5⟩ := tiOf_spec hT
    have h6 := tk_map (h5.trans hX); subst h6
    have hfind := find_none hkl k3 k6 hkey hn w
    refine ⟨if c then .tuple #[Y.zero, .bool false] else Y.zero, ?_, ?_⟩
    · unfold execOp
      simp only [ho, hxv, Instr.lookup, Sem.run_bind, run_underlying h4, Result.andThen_ok, run_getMap k2, Sem.run_pure, hkl.check w _ hkey, hfind, run_zeroValue hT']
    · subst hv
      exact lookA_rep hu

theorem run_setMap {b : Nat} {es es' : Array MapEntry} {c c' : Nat} {w : World} (h : w.heap[b]? = some (.map es c)) : (setObj b (.map es' c')).run P w = .ok () { w with heap := w.heap.setIfInBounds b (.map es' c') } := by
  simp only [setObj, Sem.run, h]

/-- The entry of a key that is there. -/
theorem OpS.entO {id : Id} {K E : TypeId} {X : TI} {kvs : List (Value × Value)} {i : Nat} {k u : Value} {ka : AV} (hkl : KL P K) (ho : o.op = .mapEntry T x y) (hT : tiOf P T = some X) (hX : X.k = .map K E) (hx : ae x = some (.one (.mp id))) (hy : ae y = some ka) (hk : valOf ka = some k) (hkt : ∀ vs, k ≠ .tuple vs) (hi : kvs[i]? = some (k, u)) (hil : i ≤ 9223372036854775807) :
    OpS P G o ae [] [(id, .map (isKey P K) kvs)] [(id, some (.map (isKey P K) kvs))] [] (entA u i) :=
  .change (fun φ F w ρ hs hop r b hr hor hb => by
    have h1 := hop x (by simp [ho, Op.operands]) _ hx
    simp only [repAV, repC] at h1
    obtain ⟨r', b', hr', hb', hxv⟩ := h1
    rw [hr] at hr'; cases hr'
    rw [hb] at hb'; cases hb'
    obtain ⟨rfl, _⟩ := valOf_rep hk (hop y (by simp [ho, Op.operands]) _ hy) hkt
    obtain ⟨b', es, k1, k2, k3, k4, k5, k6⟩ := hor
    rw [hb] at k1; cases k1
    obtain ⟨_, _, _, h4, _, _, _, h5⟩ := tiOf_spec hT
    have h6 := tk_map (h5.trans hX); subst h6
    have hkey : isKey P K (ρ y) := (k6 _ (List.mem_of_getElem? hi)).1
    have hu : okM u := (k6 _ (List.mem_of_getElem? hi)).2
    have hfind := find_at hkl k3 k5 k6 hi w
    have hei : ∃ e, es[i]? = some e ∧ e.key = ρ y ∧ e.val = u := by
      have := hi
      rw [← k3] at this
      simp only [List.getElem?_map, Option.map_eq_some_iff, Prod.mk.injEq] at this
      obtain ⟨e, h7, h8, h9⟩ := this
      exact ⟨e, by simpa using h7, h8, h9⟩
    obtain ⟨e, he1, he2, he3⟩ := hei
    have hborn := k4 i e he1
    have hsame : es.modify i (fun e => { e with key := ρ y }) = es := by
      apply Array.ext_getElem?
      intro j
      rw [Array.getElem?_modify]
      by_cases hj : i = j
      · subst hj
        simp [he1, ← he2]
      · rw [if_neg hj]
    refine ⟨.tuple #[u, .int .i64 i], .map es es.size, .value (.tuple #[u, .int .i64 i]), { w with heap := w.heap.setIfInBounds b (.map es es.size) }, ?_, .inl rfl, rfl, rfl, rfl, rfl, ?_⟩
    · unfold execOp
      have hst := hkl.stays w hkey
      have hset := run_setMap (P := P) (es' := es) (c' := es.size) k2
      simp only [ho, hxv, Instr.mapEntry, Sem.run_bind, run_underlying h4, Result.andThen_ok, run_getMap k2, hkl.check w _ hkey, hfind, he1, Option.map_some, Option.getD_some, he2, hst, hsame, hset, Sem.run_pure, goInt, hborn]
    · intro hkeep
      refine ⟨⟨b, es, hb, ?_, k3, k4, k5, k6⟩, ?_⟩
      · have := (Array.getElem?_eq_some_iff.1 k2).1
        simp [this]
      · exact entA_rep hu hil)
    (fun φ F w r h hn => by obtain ⟨b, _, h1, _⟩ := h; rw [hn] at h1; cases h1)
/-- The entry of a key that is not there. -/
theorem OpS.entN {id : Id} {K E : TypeId} {X Y : TI} {kvs : List (Value × Value)} {k : Value} {ka : AV} (hkl : KL P K) (ho : o.op = .mapEntry T x y) (hT : tiOf P T = some X) (hX : X.k = .map K E) (hT' : tiOf P E = some Y) (hx : ae x = some (.one (.mp id))) (hy : ae y = some ka) (hk : valOf ka = some k) (hkt : ∀ vs, k ≠ .tuple vs) (hkey : isKey P K k) (hn : ∀ p ∈ kvs, p.1 ≠ k) (hu : okM Y.zero) (hil : kvs.length ≤ 9223372036854775807) :
    OpS P G o ae [] [(id, .map (isKey P K) kvs)] [(id, some (.map (isKey P K) (kvs ++ [(k, Y.zero)])))] [] (entA Y.zero kvs.length) :=
  .change (fun φ F w ρ hs hop r b hr hor hb => by
    have h1 := hop x (by simp [ho, Op.operands]) _ hx
    simp only [repAV, repC] at h1
    obtain ⟨r', b', hr', hb', hxv⟩ := h1
    rw [hr] at hr'; cases hr'
    rw [hb] at hb'; cases hb'
    obtain ⟨rfl, _⟩ := valOf_rep hk (hop y (by simp [ho, Op.operands]) _ hy) hkt
    obtain ⟨b', es, k1, k2, k3, k4, k5, k6⟩ := hor
    rw [hb] at k1; cases k1
    obtain ⟨_, _, _, h4, _, _, _, h5⟩ := tiOf_spec hT
    have h6 := tk_map (h5.trans hX); subst h6
    have hfind := find_none hkl k3 k6 hkey hn w
    have hlen : es.size = kvs.length := by rw [← k3]; simp
    refine ⟨.tuple #[Y.zero, .int .i64 es.size], .map (es.push ⟨ρ y, Y.zero, es.size⟩) (es.size + 1), .value (.tuple #[Y.zero, .int .i64 es.size]), { w with heap := w.heap.setIfInBounds b (.map (es.push ⟨ρ y, Y.zero, es.size⟩) (es.size + 1)) }, ?_, .inl rfl, rfl, rfl, rfl, rfl, ?_⟩
    · unfold execOp
      have hset := run_setMap (P := P) (es' := es.push ⟨ρ y, Y.zero, es.size⟩) (c' := es.size + 1) k2
      simp only [ho, hxv, Instr.mapEntry, Sem.run_bind, run_underlying h4, Result.andThen_ok, run_getMap k2, hkl.check w _ hkey, hfind, run_zeroValue hT', hset, Sem.run_pure, goInt]
    · intro hkeep
      refine ⟨⟨b, es.push ⟨ρ y, Y.zero, es.size⟩, hb, ?_, ?_, ?_, ?_, ?_⟩, ?_⟩
      · have := (Array.getElem?_eq_some_iff.1 k2).1
        simp [this]
      · simp [← k3]
      · intro j e he
        rw [Array.getElem?_push] at he
        split at he
        · cases he; simp_all
        · exact k4 j e he
      · rw [List.map_append, List.nodup_append]
        refine ⟨k5, by simp, ?_⟩
        intro a ha b hb e
        simp at hb
        subst hb
        simp only [List.mem_map] at ha
        obtain ⟨p, hp, h7⟩ := ha
        exact hn p hp (h7.trans e)
      · intro p hp
        simp at hp
        rcases hp with hp | rfl
        · exact k6 p hp
        · exact ⟨hkey, hu⟩
      · rw [hlen]
        exact entA_rep hu hil)
    (fun φ F w r h hn => by obtain ⟨b, _, h1, _⟩ := h; rw [hn] at h1; cases h1)
/-- A store into an entry, by its stamp. -/
theorem OpS.entS {id : Id} {ok : Value → Prop} {kvs : List (Value × Value)} {i : Nat} {k u0 u : Value} {ua : AV} {a : Int} (ho : o.op = .entryStore T x y z) (hx : ae x = some (.one (.mp id))) (hy : ae y = some (AI .i64 a)) (ha : a = (i : Int)) (hz : ae z = some ua) (hu : valOf ua = some u) (hut : ∀ vs, u ≠ .tuple vs) (hi : kvs[i]? = some (k, u0)) :
    OpS P G o ae [] [(id, .map ok kvs)] [(id, some (.map ok (kvs.set i (k, u))))] [] (.tup 0 (fun _ => junkA)) :=
  .change (fun φ F w ρ hs hop r b hr hor hb => by
    have h1 := hop x (by simp [ho, Op.operands]) _ hx
    simp only [repAV, repC] at h1
    obtain ⟨r', b', hr', hb', hxv⟩ := h1
    rw [hr] at hr'; cases hr'
    rw [hb] at hb'; cases hb'
    have h2 := rep_raw (hop y (by simp [ho, Op.operands]) _ hy)
    obtain ⟨rfl, hum⟩ := valOf_rep hu (hop z (by simp [ho, Op.operands]) _ hz) hut
    obtain ⟨b', es, k1, k2, k3, k4, k5, k6⟩ := hor
    rw [hb] at k1; cases k1
    subst ha
    have hei : ∃ e, es[i]? = some e ∧ e.key = k ∧ e.val = u0 := by
      have := hi
      rw [← k3] at this
      simp only [List.getElem?_map, Option.map_eq_some_iff, Prod.mk.injEq] at this
      obtain ⟨e, h7, h8, h9⟩ := this
      exact ⟨e, by simpa using h7, h8, h9⟩
    obtain ⟨e, he1, he2, he3⟩ := hei
    have hilt : i < es.size := (Array.getElem?_eq_some_iff.1 he1).1
    have hfind : es.findIdx? (fun e => (e.born : Int) == (i : Int)) = some i := by
      rw [Array.findIdx?_eq_some_iff_getElem]
      refine ⟨hilt, ?_, ?_⟩
      · have := k4 i es[i] (by simp [hilt])
        simp [this]
      · intro j hj
        have := k4 j es[j] (Array.getElem?_eq_getElem (by omega))
        simp [this]; omega
    refine ⟨undef, .map (es.modify i fun e => { e with val := ρ z }) es.size, .skip, { w with heap := w.heap.setIfInBounds b (.map (es.modify i fun e => { e with val := ρ z }) es.size) }, ?_, .inr ⟨rfl, rfl⟩, rfl, rfl, rfl, rfl, ?_⟩
    · unfold execOp
      have hset := run_setMap (P := P) (es' := es.modify i fun e => { e with val := ρ z }) (c' := es.size) k2
      simp only [ho, hxv, h2, Instr.entryStore, Sem.run_bind, Sem.run_pure, Result.andThen_ok, run_getMap k2, asInt, asIntOf, hfind, hset]
    · intro hkeep
      refine ⟨⟨b, es.modify i fun e => { e with val := ρ z }, hb, ?_, ?_, ?_, ?_, ?_⟩, rep_tup0⟩
      · have := (Array.getElem?_eq_some_iff.1 k2).1
        simp [this]
      · apply List.ext_getElem?
        intro j
        simp only [List.getElem?_map, Array.getElem?_toList, Array.getElem?_modify, List.getElem?_set]
        by_cases hj : i = j
        · subst hj
          have hil : i < kvs.length := (List.getElem?_eq_some_iff.1 hi).1
          simp [he1, he2, hil]
        · rw [if_neg hj, if_neg hj, ← k3]; simp
      · intro j e' he'
        rw [Array.getElem?_modify] at he'
        split at he'
        · rename_i hj; subst hj; rw [he1] at he'; cases he'; exact k4 _ e he1
        · exact k4 j e' he'
      · have : (kvs.set i (k, ρ z)).map (·.1) = kvs.map (·.1) := by
          apply List.ext_getElem?
          intro j
          simp only [List.getElem?_map, List.getElem?_set]
          by_cases hj : i = j
          · subst hj
            have hil : i < kvs.length := (List.getElem?_eq_some_iff.1 hi).1
            simp [hil, hi]
            have := (List.getElem?_eq_some_iff.1 hi).2
            rw [this]
          · rw [if_neg hj]
        rw [this]; exact k5
      · intro p hp
        rcases List.mem_or_eq_of_mem_set hp with hp | rfl
        · exact k6 p hp
        · exact ⟨(k6 (k, u0) (List.mem_of_getElem? hi)).1, hum⟩)
    (fun φ F w r h hn => by obtain ⟨b, _, h1, _⟩ := h; rw [hn] at h1; cases h1)

/-! ### equality of values of several cells -/
structure EqT (P : Program) (T : TypeId) : Prop where
  eq : ∀ (w : World) {k u : Value}, isKey P T k → isKey P T u → ∃ r : Bool, (Op.equal T k u).run P w = .ok r w ∧ (r = true ↔ k = u)
  guard : P.eqGuardType P.depth T = false
theorem EqT.deep {P T} (hl : laidOutB P = true) (hsmall : P.types.size + 2 ≤ 10000) (hrow : T < P.types.size) (hk : P.keyType T = true) (hwide : (match P.underlying T with | some (.array _ _) | some (.struct _) => true | _ => false) = true) (hg : P.eqGuardType P.depth T = false) : EqT P T :=
  ⟨fun w k u ⟨lx, hlx⟩ ⟨ly, hly⟩ => by
    obtain ⟨r, hr, hiff⟩ := run_equal_deep (P := P) w (m := P.types.size + 1) (by omega) hk hwide hlx hly
    have K := deep_law_gate hl hsmall hrow hk hwide
    refine ⟨r, hr, hiff.trans ⟨fun h => ?_, fun h => ?_⟩⟩
    · subst h; exact K.inj hlx hly
    · subst h; rw [hlx] at hly; cases hly; rfl, hg⟩
open Classical in
/-- Are two values the same? -/
noncomputable def eqV (k u : Value) : Bool := decide (k = u)
theorem eqV_iff {k u : Value} : eqV k u = true ↔ k = u := by simp [eqV]
theorem OpS.eqA {op : BinOp} {k u : List Value} {ka ua : AV} (hE : EqT P T) (ho : o.op = .binOp op T x y yT) (hop' : op = .eql ∨ op = .neq) (hx : ae x = some ka) (hy : ae y = some ua) (hk : valOf ka = some (.agg ⟨k⟩)) (hu : valOf ua = some (.agg ⟨u⟩)) (hk1 : isKey P T (.agg ⟨k⟩)) (hu1 : isKey P T (.agg ⟨u⟩)) :
    OpS P G o ae [] [] [] [] (AB (match op with | .eql => eqV (.agg ⟨k⟩) (.agg ⟨u⟩) | _ => !eqV (.agg ⟨k⟩) (.agg ⟨u⟩))) :=
  .quiet fun φ F w ρ hs hop => by
    obtain ⟨h1, _⟩ := valOf_rep hk (hop x (by simp [ho, Op.operands]) _ hx) (by simp)
    obtain ⟨h2, _⟩ := valOf_rep hu (hop y (by simp [ho, Op.operands]) _ hy) (by simp)
    obtain ⟨r, hr, hiff⟩ := hE.eq w hk1 hu1
    have hrb : r = eqV (.agg ⟨k⟩) (.agg ⟨u⟩) := by rw [Bool.eq_iff_iff, hiff, eqV_iff]
    subst hrb
    rcases hop' with rfl | rfl
    · refine ⟨_, ?_, rep_raw_mk rfl⟩
      have hg := run_eqGuard_agg (P := P) w .eql T x y ⟨k⟩ ⟨u⟩ hE.guard
      unfold execOp
      simp only [ho, h1, h2, Sem.run_bind, hg, Result.andThen_ok, binOp, hr, Sem.run_pure]
    · refine ⟨_, ?_, rep_raw_mk rfl⟩
      have hg := run_eqGuard_agg (P := P) w .neq T x y ⟨k⟩ ⟨u⟩ hE.guard
      unfold execOp
      simp only [ho, h1, h2, Sem.run_bind, hg, Result.andThen_ok, binOp, hr, Sem.run_pure]

theorem mapM_some {α β : Type} {f : α → Option β} {g : α → β} : ∀ (L : List α), (∀ i ∈ L, f i = some (g i)) → L.mapM f = some (L.map g)
  | [], _ => rfl
  | a :: L, h => by
    simp [List.mapM_cons, h a (by simp), mapM_some L fun i hi => h i (by simp [hi])]
/-- Which arrays and structs of whole numbers are keys. -/
theorem isKey_ints {T E : TypeId} {X Y : TI} {n : Nat} {q : IntKind} (hT : tiOf P T = some X) (hX : X.k = .array n E) (hE : tiOf P E = some Y) (hY : Y.k = .int q) (hs : X.size = n) (hs1 : Y.size = 1) (hk : P.keyType T = true) (hsz : 1 ≤ P.types.size) {xs : List Int} (hl : xs.length = n) (hw : ∀ x ∈ xs, (Lit.int q x).wf = true) : isKey P T (.agg (xs.map (Value.int q)).toArray) := by
  obtain ⟨i1, d1, k1, h4, _, k2, _, h5⟩ := tiOf_spec hT
  have h6 := tk_array (h5.trans hX); subst h6
  obtain ⟨i2, d2, k3, h7, _, k4, _, h8⟩ := tiOf_spec hE
  have h9 := tk_int (h8.trans hY); subst h9
  have hc1 : P.cellsOf T = n := by simp [Program.cellsOf, k1, k2, hs]
  have hc2 : P.cellsOf E = 1 := by simp [Program.cellsOf, k3, k4, hs1]
  have hlits : P.keyLits (P.types.size + 1) T ((xs.map (Value.int q)).toArray).toList = some ((List.range n).map fun i => Lit.int q (xs.getD i 0)) := by
    obtain ⟨m, hm⟩ : ∃ m, P.types.size = m + 1 := ⟨P.types.size - 1, by omega⟩
    rw [hm]
    have hmm : (List.range n).mapM (fun i => P.keyLits (m + 1) E (((xs.map (Value.int q)).drop (i * 1)).take 1)) = some ((List.range n).map fun i => [Lit.int q (xs.getD i 0)]) := by
      apply mapM_some
      intro i hi
      have hi' : i < xs.length := by rw [hl]; simpa using hi
      have hcut : ((xs.map (Value.int q)).drop (i * 1)).take 1 = [.int q xs[i]] := by
        rw [Nat.mul_one, List.drop_eq_getElem_cons (by simpa using hi')]
        simp
      rw [hcut]
      simp [Program.keyLits, h7, hw xs[i] (List.getElem_mem hi'), List.getD_eq_getElem?_getD, List.getElem?_eq_getElem hi']
    rw [Program.keyLits.eq_def]
    simp only [h4, hc1, hc2, List.length_map, hl, if_true, hmm, Option.map_some]
    congr 1
    generalize List.range n = L
    induction L with
    | nil => rfl
    | cons a L ih => simp only [List.map_cons, List.flatten_cons, ih]; rfl
  refine ⟨.string (keyBytes ((List.range n).map fun i => Lit.int q (xs.getD i 0))), ?_⟩
  unfold keyOf
  simp only [h4, hk, Value.formed, hc1, List.size_toArray, List.length_map, hl, beq_self_eq_true, Bool.and_self, if_true, Value.cells, hlits, Option.map_some]
end
end Go.Bw
