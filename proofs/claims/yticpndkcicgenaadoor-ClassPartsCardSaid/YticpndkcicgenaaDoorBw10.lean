/- Abstract walk over contents given by functions, part 10: len, min, max, cutting, make, bytes and strings, closures. -/
import Derived.Test.YticpndkcicgenaaDoorBw9
set_option linter.unusedVariables false
set_option linter.unusedSimpArgs false
namespace Go.Bw
open Go.RowKit
section
variable {P : Program} {G : List (Addr × Value)} {o : Oper} {ae : Operand → Option AV} {x y z s : Operand} {v : AV} {T yT : TypeId}

theorem run_getMap {b : Nat} {es : Array MapEntry} {c : Nat} {w : World} (h : w.heap[b]? = some (.map es c)) : (getObj b).run P w = .ok (.map es c) w := by
  simp only [getObj, Sem.run, h]
/-! ### len -/
theorem exec_builtin {ρ : Operand → Value} {b : Builtin} {xs : Array Operand} {ts : Array TypeId} (ho : o.op = .call { callee := .builtin b, args := xs, argTypes := ts }) :
    execOp ρ o = Go.builtin b ts o.type (xs.map fun | .const _ => true | _ => false) (xs.map ρ) := by
  unfold execOp
  simp only [ho, resolve]
  rfl
theorem len_ok {n : Nat} (h : n ≤ maxLen) : okV (.int .i64 (n : Int)) := by
  simp only [maxLen] at h
  exact ⟨show (-9223372036854775808 : Int) ≤ n by omega, show (n : Int) ≤ 9223372036854775807 by omega⟩
/-- How long is it? -/
def lenA (m : MOut) : AV → Option (Nat × MIn)
  | .one (.d (.lst _ n _)) => some (n, [])
  | .one (.d (.raw (.slice none 0 0))) => some (0, [])
  | .one (.sl id _ n) => match ofOut m id with
    | some (.row e k nn g) => some (n, [(id, .row e k nn g)])
    | some (.rowC e k nn g) => some (n, [(id, .rowC e k nn g)])
    | _ => none
  | _ => none
theorem OpS.lenSl {v : AV} {m : MOut} {n : Nat} {rd : MIn} {t e : TypeId} {X : TI} (ho : o.op = .call { callee := .builtin .len, args := #[x], argTypes := #[t] }) (hx : ae x = some v) (hv : lenA m v = some (n, rd)) (hT : tiOf P t = some X) (hk : X.k = .slice e) : OpS P G o ae rd [] [] [] (AI .i64 n) :=
  .quiet fun φ F w ρ hs hop => by
    have h1 := hop x (by simp [ho, Op.operands, Call.operands]) _ hx
    obtain ⟨i1, d1, _, h4, _, _, _, h5⟩ := tiOf_spec hT
    have h6 := tk_slice (h5.trans hk)
    subst h6
    have key : ∃ a c, ρ x = .slice a n c ∧ n ≤ maxLen := by
      unfold lenA at hv
      split at hv
      · cases hv
        simp only [repAV, repC, repD] at h1
        obtain ⟨a, cap, hv, hc, hm, _⟩ := h1
        exact ⟨a, cap, hv, by omega⟩
      · cases hv
        exact ⟨none, 0, rep_raw h1, Nat.zero_le _⟩
      · split at hv
        · rename_i id lo n' _ e' k' nn' g' hm
          cases hv
          simp only [repAV, repC] at h1
          obtain ⟨r, hr, hv, hcap⟩ := h1
          obtain ⟨r', hr', _, _, hm, _⟩ := hs.obj id (.row e' k' nn' g') (by simp [ofIn, List.lookup_cons])
          rw [hr] at hr'; cases hr'
          exact ⟨_, _, hv, by omega⟩
        · rename_i id lo n' _ e' k' nn' g' hm
          cases hv
          simp only [repAV, repC] at h1
          obtain ⟨r, hr, hv, hcap⟩ := h1
          obtain ⟨r', hr', _, _, hm, _⟩ := hs.obj id (.rowC e' k' nn' g') (by simp [ofIn, List.lookup_cons])
          rw [hr] at hr'; cases hr'
          exact ⟨_, _, hv, by omega⟩
        · cases hv
      · cases hv
    obtain ⟨a, c, hv, hm⟩ := key
    refine ⟨.int .i64 n, ?_, rep_raw_mk (len_ok hm)⟩
    rw [exec_builtin ho]
    simp [Go.builtin, Builtin.len_, hv, run_underlying h4, goInt]
theorem OpS.lenS {l : List UInt8} {t : TypeId} {X : TI} (ho : o.op = .call { callee := .builtin .len, args := #[x], argTypes := #[t] }) (hx : ae x = some (AL l)) (hT : tiOf P t = some X) (hk : X.k = .string) (hl : l.length ≤ 9223372036854775807) : OpS P G o ae [] [] [] [] (AI .i64 l.length) :=
  .quiet fun φ F w ρ hs hop => by
    have hv := rep_raw (hop x (by simp [ho, Op.operands, Call.operands]) _ hx)
    obtain ⟨i1, d1, _, h4, _, _, _, h5⟩ := tiOf_spec hT
    have h6 := tk_string (h5.trans hk)
    subst h6
    refine ⟨.int .i64 l.length, ?_, rep_raw_mk (len_ok (by simp only [maxLen]; omega))⟩
    rw [exec_builtin ho]
    have hr := run_len_string (P := P) w t o.type (str l) h4
    rw [str_size] at hr
    simp [Go.builtin, hv, hr, goInt]
theorem OpS.lenM {id : Id} {ok : Value → Prop} {kvs : List (Value × Value)} {t : TypeId} {X : TI} {e e' : TypeId} (ho : o.op = .call { callee := .builtin .len, args := #[x], argTypes := #[t] }) (hx : ae x = some (.one (.mp id))) (hT : tiOf P t = some X) (hk : X.k = .map e e') (hl : kvs.length ≤ 9223372036854775807) : OpS P G o ae [(id, .map ok kvs)] [] [] [] (AI .i64 kvs.length) :=
  .quiet fun φ F w ρ hs hop => by
    have h1 := hop x (by simp [ho, Op.operands, Call.operands]) _ hx
    simp only [repAV, repC] at h1
    obtain ⟨r, b, hr, hb, hv⟩ := h1
    obtain ⟨r', hr', b', es, k1, k2, k3, _⟩ := hs.obj id (.map ok kvs) (by simp [ofIn, List.lookup_cons])
    rw [hr] at hr'; cases hr'
    rw [hb] at k1; cases k1
    obtain ⟨i1, d1, _, h4, _, _, _, h5⟩ := tiOf_spec hT
    have h6 := tk_map (h5.trans hk)
    subst h6
    have hlen : es.size = kvs.length := by rw [← k3]; simp
    refine ⟨.int .i64 kvs.length, ?_, rep_raw_mk (len_ok (by simp only [maxLen]; omega))⟩
    rw [exec_builtin ho]
    simp [Go.builtin, Builtin.len_, hv, run_underlying h4, goInt, run_getMap k2, hlen]

/-! ### min, max -/
theorem ite_ok {k : IntKind} {a b : Int} {c : Prop} [Decidable c] (ha : okV (.int k a)) (hb : okV (.int k b)) : okV (.int k (if c then a else b)) := by split <;> assumption
theorem OpS.minI {k : IntKind} {a b : Int} {ts : Array TypeId} (ho : o.op = .call { callee := .builtin .min, args := #[x, y], argTypes := ts }) (hx : ae x = some (AI k a)) (hy : ae y = some (AI k b)) : OpS P G o ae [] [] [] [] (AI k (if b < a then b else a)) :=
  .quiet fun φ F w ρ hs hop => by
    have h1 := rep_raw (hop x (by simp [ho, Op.operands, Call.operands]) _ hx)
    have h2 := rep_raw (hop y (by simp [ho, Op.operands, Call.operands]) _ hy)
    refine ⟨_, ?_, rep_raw_mk (ite_ok (rep_ok (hop y (by simp [ho, Op.operands, Call.operands]) _ hy)) (rep_ok (hop x (by simp [ho, Op.operands, Call.operands]) _ hx)))⟩
    rw [exec_builtin ho]
    simp [Go.builtin, Builtin.min_, Builtin.min2, h1, h2]
theorem OpS.min3 {k : IntKind} {a b c : Int} {ts : Array TypeId} (ho : o.op = .call { callee := .builtin .min, args := #[x, y, z], argTypes := ts }) (hx : ae x = some (AI k a)) (hy : ae y = some (AI k b)) (hz : ae z = some (AI k c)) : OpS P G o ae [] [] [] [] (AI k (if c < (if b < a then b else a) then c else (if b < a then b else a))) :=
  .quiet fun φ F w ρ hs hop => by
    have h1 := rep_raw (hop x (by simp [ho, Op.operands, Call.operands]) _ hx)
    have h2 := rep_raw (hop y (by simp [ho, Op.operands, Call.operands]) _ hy)
    have h3 := rep_raw (hop z (by simp [ho, Op.operands, Call.operands]) _ hz)
    refine ⟨_, ?_, rep_raw_mk (ite_ok (rep_ok (hop z (by simp [ho, Op.operands, Call.operands]) _ hz)) (ite_ok (rep_ok (hop y (by simp [ho, Op.operands, Call.operands]) _ hy)) (rep_ok (hop x (by simp [ho, Op.operands, Call.operands]) _ hx))))⟩
    rw [exec_builtin ho]
    simp [Go.builtin, Builtin.min_, Builtin.min2, h1, h2, h3]
theorem OpS.maxI {k : IntKind} {a b : Int} {ts : Array TypeId} (ho : o.op = .call { callee := .builtin .max, args := #[x, y], argTypes := ts }) (hx : ae x = some (AI k a)) (hy : ae y = some (AI k b)) : OpS P G o ae [] [] [] [] (AI k (if a < b then b else a)) :=
  .quiet fun φ F w ρ hs hop => by
    have h1 := rep_raw (hop x (by simp [ho, Op.operands, Call.operands]) _ hx)
    have h2 := rep_raw (hop y (by simp [ho, Op.operands, Call.operands]) _ hy)
    refine ⟨_, ?_, rep_raw_mk (ite_ok (rep_ok (hop y (by simp [ho, Op.operands, Call.operands]) _ hy)) (rep_ok (hop x (by simp [ho, Op.operands, Call.operands]) _ hx)))⟩
    rw [exec_builtin ho]
    simp [Go.builtin, Builtin.max_, Builtin.max2, h1, h2]

/-! ### cutting -/
/-- The bounds of a cut: what is said, or what stands for it. -/
inductive Bnd (ae : Operand → Option AV) : Option Operand → Nat → Nat → Prop where
  | no {d : Nat} : Bnd ae none d d
  | at {q k a i d} : ae q = some (AI k a) → a = ((i : Nat) : Int) → Bnd ae (some q) d i
/-- What lies between two places. -/
def cutL {α : Type} (i j : Nat) (l : List α) : List α := (l.drop i).take (j - i)
theorem cutL_eq {α : Type} {i j : Nat} (l : List α) (_ : j ≤ l.length) : cutL i j l = (l.drop i).take (j - i) := rfl
theorem OpS.cutS {l : List UInt8} {lo hi : Option Operand} {i j : Nat} {X : TI} (ho : o.op = .slice T x lo hi none) (hx : ae x = some (AL l)) (hT : tiOf P T = some X) (hk : X.k = .string)
    (hlo : Bnd ae lo 0 i) (hhi : Bnd ae hi l.length j) (hij : i ≤ j) (hj : j ≤ l.length) : OpS P G o ae [] [] [] [] (AL (cutL i j l)) :=
  .quiet fun φ F w ρ hs hop => by
    rw [cutL_eq _ hj]
    have e1 := rep_raw (hop x (by simp [ho, Op.operands]) _ hx)
    obtain ⟨i1, d1, _, h4, _, _, _, h5⟩ := tiOf_spec hT
    have h6 := tk_string (h5.trans hk)
    subst h6
    refine ⟨_, ?_, rep_raw_mk rfl⟩
    have hi0 : (0 : Int) ≤ i ∧ (i : Int) ≤ j := ⟨by omega, by omega⟩
    have hj0 : (0 : Int) ≤ j ∧ (j : Int) ≤ (l.length : Int) := ⟨by omega, by omega⟩
    unfold execOp
    rcases hlo with _ | ⟨hq, rfl⟩ <;> rcases hhi with _ | ⟨hq2, rfl⟩
    · simp [ho, e1, Instr.sliceAt, Instr.slice, Instr.sliceBounds, run_underlying h4, str_size, extract_str]
    · have e3 := rep_raw (hop _ (by simp [ho, Op.operands]) _ hq2)
      simp [ho, e1, e3, Instr.sliceAt, Instr.slice, Instr.sliceBounds, Instr.sliceBound, asIntOf, run_underlying h4, str_size, extract_str, hj0, hj]
    · have e3 := rep_raw (hop _ (by simp [ho, Op.operands]) _ hq)
      simp [ho, e1, e3, Instr.sliceAt, Instr.slice, Instr.sliceBounds, Instr.sliceBound, asIntOf, run_underlying h4, str_size, extract_str, hi0, hij]
    · have e3 := rep_raw (hop _ (by simp [ho, Op.operands]) _ hq)
      have e4 := rep_raw (hop _ (by simp [ho, Op.operands]) _ hq2)
      simp [ho, e1, e3, e4, Instr.sliceAt, Instr.slice, Instr.sliceBounds, Instr.sliceBound, asIntOf, run_underlying h4, str_size, extract_str, hi0, hj0, hij, hj]
theorem OpS.cutF {k n : Nat} {g : Nat → Nat → D} {lo hi : Option Operand} {i j : Nat} {X Y : TI} {e : TypeId} (ho : o.op = .slice T x lo hi none) (hx : ae x = some (.one (.d (.lst k n g)))) (hT : tiOf P T = some X) (hk : X.k = .slice e) (hT' : tiOf P e = some Y) (hks : Y.size = k)
    (hlo : Bnd ae lo 0 i) (hhi : Bnd ae hi n j) (hij : i ≤ j) (hj : j ≤ n) : OpS P G o ae [] [] [] [] (.one (.d (.lst k (j - i) (sh i g)))) :=
  .quiet fun φ F w ρ hs hop => by
    have h1 := hop x (by simp [ho, Op.operands]) _ hx
    simp only [repAV, repC, repD] at h1
    obtain ⟨a, cap, hv, hcap, hmax, hz⟩ := h1
    obtain ⟨i1, d1, _, h4, _, _, _, h5⟩ := tiOf_spec hT
    have h6 := tk_slice (h5.trans hk)
    subst h6
    have hrun : (execOp ρ o).run P w = .ok (.value (.slice (if cap = i then a else a.map (·.add (i * k))) (j - i) (cap - i))) w := by
      have hi0 : (0 : Int) ≤ i ∧ (i : Int) ≤ j := ⟨by omega, by omega⟩
      have hj0 : (0 : Int) ≤ j ∧ (j : Int) ≤ (cap : Int) := ⟨by omega, by omega⟩
      have hjc : j ≤ cap := by omega
      unfold execOp
      rcases hlo with _ | ⟨hq, rfl⟩ <;> rcases hhi with _ | ⟨hq2, rfl⟩
      · simp [ho, hv, Instr.sliceAt, Instr.slice, Instr.sliceBounds, run_underlying h4, run_sizeOf hT', hks]
      · have e3 := rep_raw (hop _ (by simp [ho, Op.operands]) _ hq2)
        simp [ho, hv, e3, Instr.sliceAt, Instr.slice, Instr.sliceBounds, Instr.sliceBound, asIntOf, run_underlying h4, hj0, hjc, run_sizeOf hT', hks]
      · have e3 := rep_raw (hop _ (by simp [ho, Op.operands]) _ hq)
        simp [ho, hv, e3, Instr.sliceAt, Instr.slice, Instr.sliceBounds, Instr.sliceBound, asIntOf, run_underlying h4, hi0, hij, run_sizeOf hT', hks]
      · have e3 := rep_raw (hop _ (by simp [ho, Op.operands]) _ hq)
        have e4 := rep_raw (hop _ (by simp [ho, Op.operands]) _ hq2)
        simp [ho, hv, e3, e4, Instr.sliceAt, Instr.slice, Instr.sliceBounds, Instr.sliceBound, asIntOf, run_underlying h4, hi0, hj0, hij, hjc, run_sizeOf hT', hks]
    refine ⟨_, hrun, ?_⟩
    simp only [repAV, repC, repD]
    refine ⟨_, _, rfl, by omega, by omega, ?_⟩
    by_cases hji : j - i = 0
    · exact .inl hji
    · right
      rcases hz with hz | ⟨b, off, rfl, hF, hrow⟩
      · omega
      · refine ⟨b, off + i * k, by rw [if_neg (by omega)]; simp [addr_add], hF, fun q r hq hr => ?_⟩
        obtain ⟨u, hu, hrr⟩ := hrow (i + q) r (by omega) hr
        refine ⟨u, ?_, by rw [sh_eq]; exact hrr⟩
        rw [← hu]
        congr 2
        rw [Nat.add_mul]; omega
/-- The front of a row. -/
theorem OpS.cutR {id : Id} {lo0 n : Nat} {lo : Option Operand} {hi : Option Operand} {j : Nat} {X Y : TI} {e : TypeId} (ho : o.op = .slice T x lo hi none) (hx : ae x = some (.one (.sl id lo0 n))) (hT : tiOf P T = some X) (hk : X.k = .slice e) (hT' : tiOf P e = some Y)
    (hlo : Bnd ae lo 0 0) (hhi : Bnd ae hi n j) (hj : j ≤ n) : OpS P G o ae [] [] [] [] (.one (.sl id lo0 j)) :=
  .quiet fun φ F w ρ hs hop => by
    have h1 := hop x (by simp [ho, Op.operands]) _ hx
    simp only [repAV, repC] at h1
    obtain ⟨r, hr, hv, hcap⟩ := h1
    obtain ⟨i1, d1, _, h4, _, _, _, h5⟩ := tiOf_spec hT
    have h6 := tk_slice (h5.trans hk)
    subst h6
    have hjc : j ≤ r.cap - lo0 := by omega
    have hrun : (execOp ρ o).run P w = .ok (.value (.slice (r.b.map fun b => ⟨b, lo0 * r.k, none⟩) j (r.cap - lo0))) w := by
      have hj0 : (0 : Int) ≤ j ∧ (j : Int) ≤ ((r.cap - lo0 : Nat) : Int) := ⟨by omega, by omega⟩
      have ha : ∀ A : Option Addr, A.map (fun b => b.add 0) = A := by intro A; cases A <;> simp [Addr.add]
      unfold execOp
      rcases hlo with _ | ⟨hq, rfl⟩ <;> rcases hhi with _ | ⟨hq2, rfl⟩
      · simp [ho, hv, Instr.sliceAt, Instr.slice, Instr.sliceBounds, run_underlying h4, run_sizeOf hT', Addr.add]
      · have e3 := rep_raw (hop _ (by simp [ho, Op.operands]) _ hq2)
        simp [ho, hv, e3, Instr.sliceAt, Instr.slice, Instr.sliceBounds, Instr.sliceBound, asIntOf, run_underlying h4, hj0, hjc, run_sizeOf hT', Addr.add]
      · have e3 := rep_raw (hop _ (by simp [ho, Op.operands]) _ hq)
        simp [ho, hv, e3, Instr.sliceAt, Instr.slice, Instr.sliceBounds, Instr.sliceBound, asIntOf, run_underlying h4, run_sizeOf hT', Addr.add]
      · have e3 := rep_raw (hop _ (by simp [ho, Op.operands]) _ hq)
        have e4 := rep_raw (hop _ (by simp [ho, Op.operands]) _ hq2)
        simp [ho, hv, e3, e4, Instr.sliceAt, Instr.slice, Instr.sliceBounds, Instr.sliceBound, asIntOf, run_underlying h4, hj0, hjc, run_sizeOf hT', Addr.add]
    exact ⟨_, hrun, by simp only [repAV, repC]; exact ⟨r, hr, rfl, by omega⟩⟩

/-- A part of a row that is not empty. -/
theorem OpS.cutRM {id : Id} {lo0 n : Nat} {lo hi : Option Operand} {i j : Nat} {ob : AObj} {X Y : TI} {e : TypeId} {k : Nat} {g : Nat → Nat → D} {g' : Nat → Nat → C} (ho : o.op = .slice T x lo hi none) (hx : ae x = some (.one (.sl id lo0 n))) (hT : tiOf P T = some X) (hk : X.k = .slice e) (hT' : tiOf P e = some Y)
    (hob : ob = .row e Y.size k g ∨ ob = .rowC e Y.size k g') (hlo : Bnd ae lo 0 i) (hhi : Bnd ae hi n j) (hij : i < j) (hj : j ≤ n) : OpS P G o ae [(id, ob)] [] [] [] (.one (.sl id (lo0 + i) (j - i))) :=
  .quiet fun φ F w ρ hs hop => by
    have h1 := hop x (by simp [ho, Op.operands]) _ hx
    simp only [repAV, repC] at h1
    obtain ⟨r, hr, hv, hcap⟩ := h1
    obtain ⟨r', hr', hor⟩ := hs.obj id ob (by simp [ofIn, List.lookup_cons])
    rw [hr] at hr'; cases hr'
    have hk2 : r.k = Y.size ∧ ∃ b, r.b = some b := by
      rcases hob with rfl | rfl
      · obtain ⟨k1, k2, k3, k4⟩ := hor
        rcases k4 with ⟨_, k6⟩ | ⟨b, cur, k6, _⟩
        · omega
        · exact ⟨k1, b, k6⟩
      · obtain ⟨k1, k2, k3, k4⟩ := hor
        rcases k4 with ⟨_, k6⟩ | ⟨b, cur, k6, _⟩
        · omega
        · exact ⟨k1, b, k6⟩
    obtain ⟨hk2, b, k6⟩ := hk2
    obtain ⟨i1, d1, _, h4, _, _, _, h5⟩ := tiOf_spec hT
    have h6 := tk_slice (h5.trans hk)
    subst h6
    have hne : ¬ (r.cap - lo0 = i) := by omega
    have hrun : (execOp ρ o).run P w = .ok (.value (.slice (some ⟨b, lo0 * r.k + i * Y.size, none⟩) (j - i) (r.cap - lo0 - i))) w := by
      have hi0 : (0 : Int) ≤ i ∧ (i : Int) ≤ j := ⟨by omega, by omega⟩
      have hij' : i ≤ j := by omega
      have hj0 : (0 : Int) ≤ j ∧ (j : Int) ≤ ((r.cap - lo0 : Nat) : Int) := ⟨by omega, by omega⟩
      have hjc : j ≤ r.cap - lo0 := by omega
      unfold execOp
      rcases hlo with _ | ⟨hq, rfl⟩ <;> rcases hhi with _ | ⟨hq2, rfl⟩
      · simp [ho, hv, k6, Instr.sliceAt, Instr.slice, Instr.sliceBounds, run_underlying h4, run_sizeOf hT', addr_add, hne]
      · have e3 := rep_raw (hop _ (by simp [ho, Op.operands]) _ hq2)
        simp [ho, hv, k6, e3, Instr.sliceAt, Instr.slice, Instr.sliceBounds, Instr.sliceBound, asIntOf, run_underlying h4, hj0, hjc, run_sizeOf hT', addr_add, hne]
      · have e3 := rep_raw (hop _ (by simp [ho, Op.operands]) _ hq)
        simp [ho, hv, k6, e3, Instr.sliceAt, Instr.slice, Instr.sliceBounds, Instr.sliceBound, asIntOf, run_underlying h4, hi0, hij', run_sizeOf hT', addr_add, hne]
      · have e3 := rep_raw (hop _ (by simp [ho, Op.operands]) _ hq)
        have e4 := rep_raw (hop _ (by simp [ho, Op.operands]) _ hq2)
        simp [ho, hv, k6, e3, e4, Instr.sliceAt, Instr.slice, Instr.sliceBounds, Instr.sliceBound, asIntOf, run_underlying h4, hi0, hj0, hij', hjc, run_sizeOf hT', addr_add, hne]
    refine ⟨_, hrun, ?_⟩
    simp only [repAV, repC]
    refine ⟨r, hr, ?_, by omega⟩
    rw [k6, Nat.add_mul, hk2, Nat.sub_sub]
    rfl

/-! ### make -/
theorem OpS.mkSl (id : Id) {k1 k2 : IntKind} {a b : Int} {X Y : TI} {e : TypeId} {zz : Nat → Value} (ho : o.op = .makeSlice T x y) (hx : ae x = some (AI k1 a)) (hy : ae y = some (AI k2 b)) (hT : tiOf P T = some X) (hk : X.k = .slice e) (hT' : TabOk P e Y zz) (hb0 : 0 < Y.bytes) (hb : b = a ∧ 0 ≤ a ∧ (Y.bytes : Int) * a ≤ 281474976710656) :
    OpS P G o ae [] [] [] [(id, .row e Y.size a.toNat (fun _ j => .raw (zz j)))] (.one (.sl id 0 a.toNat)) :=
  .new fun φ F w ρ hs hop hid => by
    obtain ⟨rfl, ha, hb⟩ := hb
    have e1 := rep_raw (hop x (by simp [ho, Op.operands]) _ hx)
    have e2 := rep_raw (hop y (by simp [ho, Op.operands]) _ hy)
    obtain ⟨i1, d1, _, h4, _, _, _, h5⟩ := tiOf_spec hT
    have h6 := tk_slice (h5.trans hk)
    subst h6
    obtain ⟨i2, d2, hi2, _, hz2, hsz2, hby2, _⟩ := tiOf_spec hT'.ti
    have hle : b ≤ (Y.bytes : Int) * b := by
      have := Int.mul_le_mul_of_nonneg_right (show (1 : Int) ≤ (Y.bytes : Int) by omega) ha
      omega
    have hm : b.toNat ≤ maxLen := by simp only [maxLen]; omega
    have hrun := run_make (P := P) w T e i2 Y.zero h4 hi2 hz2 k1 k2 b b ha (Int.le_refl _) (by rw [hby2]; exact hb) (by omega)
    rw [hsz2] at hrun
    refine ⟨.slice (some ⟨w.heap.size, 0, none⟩) b.toNat b.toNat, .cells (madeCells Y.zero.cells (b.toNat * Y.size)) e, ⟨some w.heap.size, Y.size, b.toNat, nofun⟩, ?_, rfl, ?_, ?_⟩
    · unfold execOp
      simp only [ho, e1, e2, Sem.run_bind, hrun, Result.andThen_ok, Sem.run_pure]
    · refine newRow_rep (ob := .map (fun _ => True) []) (h_alloc_new w _) (Nat.le_refl _) hm (by simp [size_madeCells]) fun i j hi hj => ?_
      refine ⟨zz j, made_at hT' hi hj, ?_⟩
      simp only [repC, repD]
      exact ⟨trivial, (hT'.zc j hj).2⟩
    · simp only [repAV, repC]
      exact ⟨_, if_pos trivial, by simp, by simp⟩

/-! ### conversions -/
theorem strOf_nums (l : List UInt8) : strOfNums (l.map fun b => (b.toNat : Int)) = str l := by
  unfold strOfNums
  congr 2
  rw [List.map_map]
  conv => rhs; rw [← List.map_id l]
  apply List.map_congr_left
  intro b _
  simp
def byteD (b : UInt8) : D := .raw (.int .u8 (b.toNat : Int))
/-- The bytes of a row of bytes. -/
def D.num : D → Nat
  | .raw (.int _ (.ofNat n)) => n
  | _ => 0
def bytesOf (n : Nat) (g : Nat → Nat → D) : List UInt8 := (List.range n).map fun i => UInt8.ofNat (g i 0).num
theorem bytesOf_list (l : List UInt8) : bytesOf l.length (fun i _ => byteD (l.getD i 0)) = l := by
  apply List.ext_getElem?
  intro i
  unfold bytesOf
  rw [List.getElem?_map]
  by_cases h : i < l.length
  · rw [List.getElem?_range h, List.getElem?_eq_getElem h]
    simp only [Option.map_some, byteD, List.getD_eq_getElem?_getD, List.getElem?_eq_getElem h, Option.getD_some]
    congr 1
    show UInt8.ofNat (l[i].toNat) = l[i]
    simp
  · rw [List.getElem?_eq_none (by simpa using h), List.getElem?_eq_none (by simpa using h)]
    rfl
theorem byte_of_num {a : Int} (h : okV (.int .u8 a)) : ((UInt8.ofNat (D.raw (.int .u8 a)).num).toNat : Int) = a := by
  have h : (0 : Int) ≤ a ∧ a ≤ 255 := h
  obtain ⟨n, rfl⟩ := Int.eq_ofNat_of_zero_le h.1
  show ((UInt8.ofNat n).toNat : Int) = (n : Int)
  rw [UInt8.toNat_ofNat', Nat.mod_eq_of_lt (by omega)]
/-- string(bytes) -/
theorem OpS.toStr {rd : MIn} {m : Nat} {g : Nat → Nat → D} {src dst e : TypeId} {X Y Z : TI} (ho : o.op = .convert src dst x) (hsrc : Src ae x rd 1 m g) (hg : ∀ i, i < m → ∃ a, g i 0 = .raw (.int .u8 a)) (hT : tiOf P src = some X) (hk : X.k = .slice e) (hT' : tiOf P e = some Y) (hk' : Y.k = .int .u8) (hT2 : tiOf P dst = some Z) (hk2 : Z.k = .string) : OpS P G o ae rd [] [] [] (AL (bytesOf m g)) :=
  .quiet fun φ F w ρ hs hop => by
    obtain ⟨_, _, _, h4, _, _, _, h5⟩ := tiOf_spec hT
    have h6 := tk_slice (h5.trans hk); subst h6
    obtain ⟨_, _, _, h7, _, _, _, h8⟩ := tiOf_spec hT'
    have h9 := tk_int (h8.trans hk'); subst h9
    obtain ⟨_, _, _, h10, _, _, _, h11⟩ := tiOf_spec hT2
    have h12 := tk_string (h11.trans hk2); subst h12
    obtain ⟨_, hv⟩ := hsrc.at hs (fun _ _ h => h) (hop x (by simp [ho, Op.operands]))
    have hel : (bytesOf m g).length = m := by simp [bytesOf]
    refine ⟨.string (str (bytesOf m g)), ?_, rep_raw_mk rfl⟩
    unfold execOp
    rcases hv with ⟨ad, c, news, hx, hnl, hnc, hnd⟩ | ⟨hm, c, hx⟩
    · have hrun : (convert src dst (.slice (some ad) m c)).run P w = .ok (.string (str (bytesOf m g))) w := by
        obtain ⟨b, off, spot⟩ := ad
        by_cases hm0 : m = 0
        · subst hm0
          simp [convert, run_underlying h4, run_underlying h7, run_underlying h10, Conv.bytesToString, loadCells, loadCellsFrom]
          rfl
        · have hsp : spot = none := by
            cases hnews : news with
            | nil => rw [hnews] at hnl; simp at hnl; omega
            | cons u us =>
              have := hnc 0 u (by rw [hnews]; rfl)
              simp only [Addr.add, if_pos] at this
              cases spot with
              | none => rfl
              | some s =>
                simp [World.cell?] at this
                split at this <;> simp at this
          subst hsp
          have := run_convert_bytes_arg (P := P) w src e h4 h7 b off m c ((bytesOf m g).map fun b => (b.toNat : Int)) (by simpa using hel) (fun i hi => by
            obtain ⟨u, hu, hr⟩ := hnd i 0 hi (by decide)
            obtain ⟨a, ha⟩ := hg i hi
            rw [ha] at hr
            simp only [repD] at hr
            have := hnc _ u hu
            rw [addr_add, Nat.mul_one, Nat.add_zero] at this
            rw [this, hr.1]
            congr 2
            rw [List.getD_eq_getElem?_getD, List.getElem?_map]
            unfold bytesOf
            rw [List.getElem?_map, List.getElem?_range hi]
            simp only [Option.map_some, Option.getD_some, ha]
            exact (byte_of_num hr.2).symm) dst h10
          rw [strOf_nums] at this
          exact this
      simp only [ho, hx, Sem.run_bind, hrun, Result.andThen_ok, Sem.run_pure]
    · subst hm
      have := run_convert_bytes_nil (P := P) w src e h4 h7 0 c dst h10
      simp only [ho, hx, Sem.run_bind, this, Result.andThen_ok, Sem.run_pure]
      rfl
/-- []byte(string): what comes is frozen at once. -/
theorem OpS.toBytes {l : List UInt8} {src dst e : TypeId} {X Y Z : TI} (ho : o.op = .convert src dst x) (hx : ae x = some (AL l)) (hT : tiOf P dst = some X) (hk : X.k = .slice e) (hT' : tiOf P e = some Y) (hk' : Y.k = .int .u8) (hT2 : tiOf P src = some Z) (hlen : l.length ≤ 9223372036854775807) : OpS P G o ae [] [] [] [] (.one (.d (.lst 1 l.length (fun i _ => byteD (l.getD i 0))))) := by
  intro φ F w ρ hs hop hnw
  obtain ⟨_, _, _, h4, _, _, _, h5⟩ := tiOf_spec hT
  have h6 := tk_slice (h5.trans hk); subst h6
  obtain ⟨_, _, _, h7, _, _, _, h8⟩ := tiOf_spec hT'
  have h9 := tk_int (h8.trans hk'); subst h9
  obtain ⟨_, _, _, h10, _, _, _, h11⟩ := tiOf_spec hT2
  have hv := rep_raw (hop x (by simp [ho, Op.operands]) _ hx)
  have hrun := Lib.run_convert_string_bytes (P := P) w src dst e (str l) h10 h4 h7
  have hex : (execOp ρ o).run P w = .ok (.value (.slice (some ⟨w.heap.size, 0, none⟩) (str l).size (grownCap w (str l).size 0 e))) (Lib.bytesWorld w e (str l)) := by
    unfold execOp
    simp only [ho, hv, Sem.run_bind, hrun, Result.andThen_ok, Sem.run_pure]
  rw [hex]
  have hold : ∀ b, b < w.heap.size → (Lib.bytesWorld w e (str l)).heap[b]? = w.heap[b]? := fun b hb => Lib.bytesWorld_at_old w e (str l) b hb
  have hm : ∀ id, ofOut (outs [] [] []) id = none := fun id => rfl
  refine ⟨φ, fun b => F b ∨ b = w.heap.size, ⟨?_, ?_, ?_, ?_, ?_⟩, ?_, ⟨rfl, rfl, rfl, by rw [Lib.bytesWorld_size]; omega, fun b hb _ => hold b hb, fun b hb => .inl hb, ?_, ?_, ?_⟩, fun _ _ => rfl⟩
  · intro id ob hid; rw [hm] at hid; cases hid
  · rintro b ⟨id, ob, r, hid, _⟩; rw [hm] at hid; cases hid
  · intro id1 id2 o1 o2 r1 r2 b hid; rw [hm] at hid; cases hid
  · rintro b (hb | rfl)
    · have := hs.frz b hb; rw [Lib.bytesWorld_size]; omega
    · rw [Lib.bytesWorld_size]; omega
  · intro p hp
    obtain ⟨k1, k2⟩ := hs.amb p hp
    exact ⟨.inl k1, (World.cell?_of_block (w := w) (hold _ (hs.frz _ k1))).trans k2⟩
  · simp only [repAV, repC, repD]
    refine ⟨_, _, rfl, ?_, ?_, ?_⟩
    · rw [str_size]; exact grownCap_ge _ _ _ _
    · rw [str_size]; exact grownCap_le_maxLen _ _ _ _ (by simp only [maxLen]; omega)
    · right
      refine ⟨w.heap.size, 0, rfl, .inr rfl, fun i j hi hj => ?_⟩
      have hj0 : j = 0 := by omega
      subst hj0
      refine ⟨_, by rw [Nat.zero_add, Nat.mul_one, Nat.add_zero]; exact Lib.bytesWorld_cell w e (str l) i (by rw [str_size]; exact hi), ?_⟩
      simp only [byteD, repD]
      have hb := UInt8.toNat_lt (l.getD i 0)
      refine ⟨?_, show (0 : Int) ≤ _ ∧ _ ≤ (255 : Int) by omega⟩
      simp [List.getD_eq_getElem?_getD, List.getElem?_eq_getElem hi]
  · rintro b (hb | rfl)
    · exact .inl hb
    · exact .inr (.inl (Nat.le_refl _))
  · rintro b ⟨id, ob, r, hid, _⟩; rw [hm] at hid; cases hid
  · intro id ob hid; simp [ofIn] at hid

/-! ### closures -/
def onesOf (ae : Operand → Option AV) : List Operand → Option (List C)
  | [] => some []
  | x :: xs => match ae x with
    | some (.one c) => match onesOf ae xs with | some cs => some (c :: cs) | none => none
    | _ => none
theorem onesOf_rep {φ F w} {ρ : Operand → Value} : ∀ {xs : List Operand} {cs}, onesOf ae xs = some cs → (∀ x ∈ xs, ∀ u, ae x = some u → repAV φ F w u (ρ x)) → (xs.map ρ).length = cs.length ∧ ∀ j v, (xs.map ρ)[j]? = some v → repC φ F w (nth junkC cs j) v
  | [], cs, h, _ => by simp only [onesOf, Option.some.injEq] at h; subst h; exact ⟨rfl, fun j v hv => by simp at hv⟩
  | x :: xs, cs, h, ho => by
    simp only [onesOf] at h
    split at h
    · rename_i c h1
      split at h
      · rename_i cs' h2
        cases h
        obtain ⟨a1, a2⟩ := onesOf_rep h2 fun y hy => ho y (by simp [hy])
        refine ⟨by simpa using a1, fun j v hv => ?_⟩
        cases j with
        | zero =>
          simp at hv
          subst hv
          have := ho x (by simp) _ h1
          simp only [repAV] at this
          exact this
        | succ j => exact a2 j v (by simpa using hv)
      · cases h
    · cases h
theorem OpS.mkFn {f : FuncId} {caps : Array Operand} {cs : List C} (ho : o.op = .makeFunc (.func f) #[] caps) (hc : onesOf ae caps.toList = some cs) : OpS P G o ae [] [] [] [] (.one (.clo f cs.length (nth junkC cs))) :=
  .quiet fun φ F w ρ hs hop => by
    obtain ⟨a1, a2⟩ := onesOf_rep (φ := φ) (F := F) (w := w) (ρ := ρ) hc (fun q hq => hop q (by simp [ho, Op.operands]; simpa using hq))
    refine ⟨.func (.func f) #[] (caps.map ρ), ?_, ?_⟩
    · unfold execOp
      simp [ho, Instr.makeFunc]
    · simp only [repAV, repC]
      exact ⟨caps.toList.map ρ, by congr 1; exact Array.ext' (by rw [Array.toList_map]), a1, a2⟩
theorem repAVs_app {φ F w} : ∀ {as : List AV} {us : List Value} {bs : List AV} {vs : List Value}, repAVs φ F w as us → repAVs φ F w bs vs → repAVs φ F w (as ++ bs) (us ++ vs)
  | [], us, bs, vs, h, k => by simp only [repAVs] at h; subst h; exact k
  | a :: as, us, bs, vs, h, k => by
    simp only [repAVs] at h
    obtain ⟨u, us', rfl, h1, h2⟩ := h
    simp only [List.cons_append, repAVs]
    exact ⟨_, _, rfl, h1, repAVs_app h2 k⟩
/-- The first so many of a function's values, as a list. -/
def tolist {α : Type} : Nat → (Nat → α) → List α
  | 0, _ => []
  | n + 1, g => g 0 :: tolist n fun j => g (j + 1)
theorem repAVs_ones {φ F w} : ∀ {n : Nat} {g : Nat → C} {us : List Value}, us.length = n → (∀ j v, us[j]? = some v → repC φ F w (g j) v) → repAVs φ F w (tolist n fun j => .one (g j)) us
  | 0, g, us, hl, h => by simp only [tolist, repAVs]; exact List.eq_nil_of_length_eq_zero hl
  | n + 1, g, [], hl, h => by simp at hl
  | n + 1, g, u :: us, hl, h => by
    simp only [tolist, repAVs]
    exact ⟨u, us, rfl, h 0 u rfl, repAVs_ones (g := fun j => g (j + 1)) (by simpa using hl) fun j v hv => h (j + 1) v (by simpa using hv)⟩
/-- A call of a function value. -/
theorem OpS.callV {f : FuncId} {q : Operand} {xs : Array Operand} {ts : Array TypeId} {n : Nat} {caps : Nat → C} {args args' : List AV} {rd wi wi0 : MIn} {wo : MOut} {nw : MIn} {v : AV} {Z : MIn} {R : Ren}
    (h : ACalls P G f args' rd wi wo nw v) (ho : o.op = .call { callee := .value q, args := xs, argTypes := ts }) (hq : ae q = some (.one (.clo f n caps)) ∨ n = 0 ∧ ae q = some (RV (.func (.func f) #[] #[]))) (hc : callable P f = true)
    (hargs : evs ae xs.toList = some args) (hco : CoXVs Z [] R (args ++ tolist n fun j => .one (caps j)) args') (hwi : CoObs Z R wi0 wi) (hR : nameOk R (keys (rd ++ wi) ++ keys nw) = true) (hZ : (keys Z).all (fun id => !(R.map (·.2)).contains id) = true) (hk : keys wo = keys wi)
    (hin : AV.inns (keys (rd ++ wi)) args' = true) (hob : mClosed (keys (rd ++ wi)) (lift (rd ++ wi))) : OpS P G o ae (renIn (rho R) rd) (Z ++ wi0) (dead Z ++ renOut (rho R) wo) (renIn (rho R) nw) (v.ren (rho R)) := by
  intro φ F w ρ hs hop hnw
  have hops : ∀ x ∈ xs.toList, ∀ u, ae x = some u → repAV φ F w u (ρ x) := fun x hx => hop x (by rw [ho]; simp only [Op.operands, Call.operands]; simp; exact .inr (by simpa using hx))
  have hopq : ∀ u, ae q = some u → repAV φ F w u (ρ q) := hop q (by rw [ho]; simp [Op.operands, Call.operands])
  have hfv : ∃ vs : List Value, ρ q = .func (.func f) #[] vs.toArray ∧ vs.length = n ∧ ∀ j v, vs[j]? = some v → repC φ F w (caps j) v := by
    rcases hq with hq | ⟨rfl, hq⟩
    · have := hopq _ hq
      simp only [repAV, repC] at this
      exact this
    · exact ⟨[], rep_raw (hopq _ hq), rfl, fun j v hv => by simp at hv⟩
  obtain ⟨vs, hfv, hvl, hvs⟩ := hfv
  have hargs' := repAVs_app (evs_rep hargs hops) (repAVs_ones hvl hvs)
  have hrun : (execOp ρ o).run P w = .ok (.enter f (xs.map ρ ++ vs.toArray)) w := by
    unfold execOp
    simp only [ho, resolve, hfv, Deferred.ofValue, Sem.run_bind, Sem.run_pure, Result.andThen_ok, invoke]
    rw [Array.empty_append]
    exact run_callFunc hc _ w
  rw [hrun]
  have hx : xs.map ρ ++ vs.toArray = (xs.toList.map ρ ++ vs).toArray := Array.ext' (by simp)
  rw [hx]
  exact h.at hco hwi hR hZ hk hin hob hs hargs' fun id hid => hnw _ (by rw [keys_renIn]; exact List.mem_map.2 ⟨id, hid, rfl⟩)
end
end Go.Bw
