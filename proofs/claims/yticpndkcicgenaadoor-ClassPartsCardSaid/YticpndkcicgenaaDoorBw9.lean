/- Abstract walk over contents given by functions, part 9: literals; slices: append, make, len, cutting; strings and bytes; closures. -/
import Derived.Test.YticpndkcicgenaaDoorBw8
import Derived.Lib.ConvBytes
import Derived.Lib.AppendStr
import Derived.Laws.OwnMore
import Derived.Laws.MakeOwn
import Derived.Laws.BytesArg
import Derived.Maps.AppendAt
set_option linter.unusedVariables false
set_option linter.unusedSimpArgs false
namespace Go.Bw
open Go.RowKit

theorem list_of {Q : Nat → Value → Prop} : ∀ (n : Nat), (∀ q, q < n → ∃ u, Q q u) → ∃ l : List Value, l.length = n ∧ ∀ q u, l[q]? = some u → Q q u
  | 0, _ => ⟨[], rfl, fun q u h => by simp at h⟩
  | n + 1, h => by
    obtain ⟨l, h1, h2⟩ := list_of n fun q hq => h q (by omega)
    obtain ⟨u, hu⟩ := h n (by omega)
    refine ⟨l ++ [u], by simp [h1], fun q v hv => ?_⟩
    by_cases hq : q < n
    · rw [List.getElem?_append_left (by omega)] at hv
      exact h2 q v hv
    · rw [List.getElem?_append_right (by omega)] at hv
      have : q = n := by
        have := (List.getElem?_eq_some_iff.1 hv).1
        simp at this; omega
      subst this
      simp [h1] at hv
      subst hv
      exact hu
theorem div_lt {q m k : Nat} (h : q < m * k) : q / k < m ∧ q % k < k ∧ q / k * k + q % k = q := by
  have hk : 0 < k := by
    rcases Nat.eq_zero_or_pos k with h0 | h0
    · subst h0; simp at h
    · exact h0
  refine ⟨Nat.div_lt_of_lt_mul (by rw [Nat.mul_comm]; exact h), Nat.mod_lt _ hk, ?_⟩
  rw [Nat.mul_comm]; exact Nat.div_add_mod q k
theorem at_cell {k i j : Nat} (hj : j < k) : (i * k + j) / k = i ∧ (i * k + j) % k = j := by
  constructor
  · rw [Nat.mul_comm, Nat.mul_add_div (by omega), Nat.div_eq_of_lt hj, Nat.add_zero]
  · rw [Nat.mul_comm, Nat.mul_add_mod, Nat.mod_eq_of_lt hj]

section
variable {P : Program} {G : List (Addr × Value)} {o : Oper} {ae : Operand → Option AV} {x y z s : Operand} {v : AV} {T yT : TypeId}

/-! ### composite literals -/
theorem setC_get : ∀ (r : List Value) (cs : Array Value) (off i : Nat), off + r.length ≤ cs.size → ((r.zipIdx 0).foldl (fun cs (p : Value × Nat) => cs.setIfInBounds (off + p.2) p.1) cs)[i]? = if off ≤ i ∧ i < off + r.length then r[i - off]? else cs[i]? := by
  have key : ∀ (r : List Value) (cs : Array Value) (off j i : Nat), off + j + r.length ≤ cs.size → ((r.zipIdx j).foldl (fun cs (p : Value × Nat) => cs.setIfInBounds (off + p.2) p.1) cs)[i]? = if off + j ≤ i ∧ i < off + j + r.length then r[i - (off + j)]? else cs[i]? := by
    intro r
    induction r with
    | nil => intro cs off j i h; simp; omega
    | cons c r ih =>
      intro cs off j i h
      simp only [List.length_cons] at h
      rw [List.zipIdx_cons, List.foldl_cons, ih _ _ _ _ (by simp; omega)]
      by_cases h1 : i = off + j
      · subst h1
        rw [if_neg (by omega), if_pos (by simp)]
        simp [Array.getElem?_setIfInBounds]; omega
      · by_cases h2 : off + (j + 1) ≤ i ∧ i < off + (j + 1) + r.length
        · rw [if_pos h2, if_pos (by simp only [List.length_cons]; omega)]
          rw [show i - (off + j) = (i - (off + (j + 1))) + 1 by omega, List.getElem?_cons_succ]
        · rw [if_neg h2, if_neg (by simp only [List.length_cons]; omega)]
          rw [Array.getElem?_setIfInBounds, if_neg (fun e => h1 e.symm)]
  intro r cs off i h
  simpa using key r cs off 0 i h
/-- The cells of a value that is written out, part for part: (index, size, cells). -/
def fillC (place : Nat → Option (Nat × Nat)) (k : Nat) : (Nat → C) → List (Nat × Nat × (Nat → C)) → Option (Nat → C)
  | g, [] => some g
  | g, (i, s, ns) :: rest =>
    match place i with
    | none => none
    | some (off, size) => match Nat.beq s size && Nat.ble (off + s) k with
      | true => fillC place k (setV k off s ns g) rest
      | false => none
inductive PartsRep (φ : Id → Option Ref) (F : Nat → Prop) (w : World) : List (Nat × Nat × (Nat → C)) → List (Nat × Value) → Prop where
  | nil : PartsRep φ F w [] []
  | cons {i s ns v l l'} : repG φ F w s ns v.cells.toList → PartsRep φ F w l l' → PartsRep φ F w ((i, s, ns) :: l) ((i, v) :: l')
theorem fill_rep {φ F w k} (place : Nat → Option (Nat × Nat)) {ps : List (Nat × Nat × (Nat → C))} {qs : List (Nat × Value)} (h : PartsRep φ F w ps qs) :
    ∀ {g g' : Nat → C} {cells : Array Value}, repG φ F w k g cells.toList → fillC place k g ps = some g' → ∃ cells', Instr.fill place cells qs = some cells' ∧ repG φ F w k g' cells'.toList := by
  induction h with
  | nil => intro g g' cells h1 h2; simp only [fillC, Option.some.injEq] at h2; subst h2; exact ⟨cells, by simp [Instr.fill], h1⟩
  | @cons i s ns v l l' hv _ ih =>
    intro g g' cells h1 h2
    simp only [fillC] at h2
    cases hp : place i with
    | none => rw [hp] at h2; cases h2
    | some p =>
      obtain ⟨off, size⟩ := p
      rw [hp] at h2
      simp only at h2
      split at h2
      · rename_i hc
        simp only [Bool.and_eq_true] at hc
        have hc1 : s = size := Nat.eq_of_beq_eq_true hc.1
        have hc2 : off + s ≤ k := Nat.le_of_ble_eq_true hc.2
        subst hc1
        have hl : v.cells.size = s := by simpa using hv.1
        have hl1 : cells.size = k := by simpa using h1.1
        have hfold : v.cells.zipIdx.foldl (fun cs (p : Value × Nat) => cs.setIfInBounds (off + p.2) p.1) cells = (v.cells.toList.zipIdx 0).foldl (fun cs (p : Value × Nat) => cs.setIfInBounds (off + p.2) p.1) cells := by
          rw [← Array.foldl_toList]; simp
        have hset : repG φ F w k (setV k off s ns g) (v.cells.zipIdx.foldl (fun cs (p : Value × Nat) => cs.setIfInBounds (off + p.2) p.1) cells).toList := by
          rw [hfold]
          have hget := fun i => setC_get v.cells.toList cells off i (by simp; omega)
          have hsz : ((v.cells.toList.zipIdx 0).foldl (fun cs (p : Value × Nat) => cs.setIfInBounds (off + p.2) p.1) cells).size = k := by
            have key : ∀ (l : List (Value × Nat)) (cs : Array Value), (l.foldl (fun cs (p : Value × Nat) => cs.setIfInBounds (off + p.2) p.1) cs).size = cs.size := by
              intro l
              induction l with
              | nil => intro cs; rfl
              | cons a l ih => intro cs; rw [List.foldl_cons, ih]; simp
            rw [key, hl1]
          refine ⟨by simpa using hsz, fun j u hu => ?_⟩
          rw [Array.getElem?_toList, hget j] at hu
          have hjk : j < k := by
            by_cases hjk : j < k
            · exact hjk
            · exfalso
              split at hu
              · rename_i hh; simp at hh; omega
              · have := (Array.getElem?_eq_some_iff.1 hu).1; omega
          rw [setV_eq hc2 j hjk]
          have hll : v.cells.toList.length = s := by simpa using hl
          rw [hll] at hu
          split at hu
          · rename_i hj
            rw [if_pos hj]
            exact hv.2 _ _ hu
          · rename_i hj
            rw [if_neg hj]
            exact h1.2 _ _ (by simpa using hu)
        obtain ⟨cells', h3, h4⟩ := ih hset h2
        refine ⟨cells', ?_, h4⟩
        simp only [Instr.fill, hp]
        rw [if_neg (by simp; omega)]
        exact h3
      · cases h2

def partsOf (ae : Operand → Option AV) : List (Nat × Operand) → Option (List (Nat × Nat × (Nat → C)))
  | [] => some []
  | (i, x) :: r => match ae x with
    | some v => match upk v with
      | some (s, g) => match partsOf ae r with
        | some l => some ((i, s, g) :: l)
        | none => none
      | none => none
    | none => none
theorem partsOf_rep {φ F w} {ρ : Operand → Value} : ∀ {ps : List (Nat × Operand)} {qs}, partsOf ae ps = some qs → (∀ p ∈ ps, ∀ u, ae p.2 = some u → repAV φ F w u (ρ p.2)) → PartsRep φ F w qs (ps.map fun p => (p.1, ρ p.2))
  | [], qs, h, _ => by simp only [partsOf, Option.some.injEq] at h; subst h; exact .nil
  | (i, x) :: r, qs, h, ho => by
    simp only [partsOf] at h
    split at h
    · rename_i v h1
      split at h
      · rename_i s g h2
        split at h
        · rename_i l h3
          cases h
          exact .cons (upk_rep h2 (ho (i, x) (by simp) _ h1)) (partsOf_rep h3 fun p hp => ho p (by simp [hp]))
        · cases h
      · cases h
    · cases h

def placesOf (t : Tr) : List (Nat × TypeId) → Option (List (Nat × Nat))
  | [] => some []
  | (off, T) :: r => match t.get T with
    | some (Y, _) => match placesOf t r with
      | some l => some ((off, Y.size) :: l)
      | none => none
    | none => none
theorem placesOf_run {P : Program} (X : Tab P) (w : World) : ∀ (fs : List Field) (l), placesOf X.t (fs.map fun f => (f.offset, f.type)) = some l → (fs.mapM fun (f : Field) => do pure (f.offset, ← sizeOf f.type)).run P w = .ok l w
  | [], l, h => by simp only [List.map_nil, placesOf, Option.some.injEq] at h; subst h; simp
  | f :: fs, l, h => by
    simp only [List.map_cons, placesOf] at h
    split at h
    · rename_i Y z h1
      split at h
      · rename_i l' h2
        cases h
        simp only [List.mapM_cons, Sem.run_bind, run_sizeOf (X.get h1).ti, Result.andThen_ok, Sem.run_pure, placesOf_run X w fs l' h2]
      · cases h
    · cases h
theorem zero_rep {φ F w X z} (hT : TabOk P T X z) : repG φ F w X.size (fun j => .d (.raw (z j))) X.zero.cells.toList := by
  refine ⟨by simpa using hT.zs, fun j u hu => ?_⟩
  have hj : j < X.size := by have h1 := (List.getElem?_eq_some_iff.1 hu).1; have h2 := hT.zs; simp at h1; omega
  obtain ⟨h1, h2⟩ := hT.zc j hj
  rw [Array.getElem?_toList, h1] at hu
  cases hu
  simp only [repC, repD]
  exact ⟨trivial, h2⟩
/-- The list's n-th. -/
def nthO {α : Type} : List α → Nat → Option α
  | [], _ => none
  | x :: _, 0 => some x
  | _ :: l, n + 1 => nthO l n
theorem nthO_eq {α : Type} : ∀ (l : List α) (i : Nat), nthO l i = l[i]?
  | [], _ => rfl
  | _ :: _, 0 => rfl
  | _ :: l, n + 1 => by rw [List.getElem?_cons_succ]; exact nthO_eq l n

/-- A struct written out. -/
theorem OpS.buildS (Xt : Tab P) {parts : Array (Nat × Operand)} {X : TI} {zz : Nat → Value} {fs : List (Nat × TypeId)} {pl : List (Nat × Nat)} {qs : List (Nat × Nat × (Nat → C))} {g : Nat → C} (ho : o.op = .build T parts) (hT : TabOk P T X zz) (hk : X.k = .struct fs)
    (hp : placesOf Xt.t fs = some pl) (hq : partsOf ae parts.toList = some qs) (hc : fillC (nthO pl) X.size (fun j => .d (.raw (zz j))) qs = some g) : OpS P G o ae [] [] [] [] (.agg X.size g) :=
  .quiet fun φ F w ρ hs hop => by
    obtain ⟨i1, d1, _, h4, _, _, _, h5⟩ := tiOf_spec hT.ti
    obtain ⟨gs, rfl, hgs⟩ := tk_struct (h5.trans hk)
    have h1 := partsOf_rep (φ := φ) (F := F) (w := w) (ρ := ρ) hq (fun p hp => hop p.2 (by simp only [ho, Op.operands]; simp; exact ⟨p.1, by simpa using hp⟩))
    have hf : nthO pl = (pl[·]?) := funext (nthO_eq pl)
    rw [hf] at hc
    obtain ⟨cells', h2, h3⟩ := fill_rep _ h1 (zero_rep (φ := φ) (F := F) (w := w) hT) hc
    have hpl := placesOf_run Xt w gs.toList pl (by rw [hgs]; exact hp)
    have hpl' : (gs.mapM fun (f : Field) => do pure (f.offset, ← sizeOf f.type)).run P w = .ok pl.toArray w := by
      have : gs = gs.toList.toArray := by simp
      rw [this, List.mapM_toArray]
      simp only [map_eq_pure_bind, Sem.run_bind, hpl, Result.andThen_ok, Sem.run_pure]
    refine ⟨.agg cells', ?_, by simp only [repAV]; exact ⟨cells'.toList, by simp, h3⟩⟩
    unfold execOp
    simp only [ho, Instr.build, Sem.run_bind, run_zeroValue hT.ti, run_underlying h4, Result.andThen_ok, hpl', Sem.run_pure]
    have he : Instr.fill (fun i => pl.toArray[i]?) X.zero.cells (parts.map fun x => (x.1, ρ x.2)).toList = some cells' := by
      rw [← h2]; congr 1
      · funext i; simp
      · simp
    have he' : Instr.fill (fun x => pl.toArray[x]?) X.zero.cells (Array.map (fun x => match x with | (i, x) => (i, ρ x)) parts).toList = some cells' := he
    simp only [he', Sem.run_pure, Result.andThen_ok]
/-- An array written out. -/
theorem OpS.buildA {parts : Array (Nat × Operand)} {X Y : TI} {zz : Nat → Value} {n : Nat} {e : TypeId} {qs : List (Nat × Nat × (Nat → C))} {g : Nat → C} (ho : o.op = .build T parts) (hT : TabOk P T X zz) (hk : X.k = .array n e) (hT' : tiOf P e = some Y)
    (hq : partsOf ae parts.toList = some qs) (hc : fillC (fun i => some (i * Y.size, Y.size)) X.size (fun j => .d (.raw (zz j))) qs = some g) : OpS P G o ae [] [] [] [] (.agg X.size g) :=
  .quiet fun φ F w ρ hs hop => by
    obtain ⟨i1, d1, _, h4, _, _, _, h5⟩ := tiOf_spec hT.ti
    have h6 := tk_array (h5.trans hk)
    subst h6
    have h1 := partsOf_rep (φ := φ) (F := F) (w := w) (ρ := ρ) hq (fun p hp => hop p.2 (by simp only [ho, Op.operands]; simp; exact ⟨p.1, by simpa using hp⟩))
    obtain ⟨cells', h2, h3⟩ := fill_rep _ h1 (zero_rep (φ := φ) (F := F) (w := w) hT) hc
    refine ⟨.agg cells', ?_, by simp only [repAV]; exact ⟨cells'.toList, by simp, h3⟩⟩
    unfold execOp
    simp only [ho, Instr.build, Sem.run_bind, run_zeroValue hT.ti, run_underlying h4, Result.andThen_ok, run_sizeOf hT', Sem.run_pure]
    have he : Instr.fill (fun i => some (i * Y.size, Y.size)) X.zero.cells (Array.map (fun x => match x with | (i, x) => (i, ρ x)) parts).toList = some cells' := by
      rw [← h2]; congr 1
      simp
    simp only [he, Sem.run_pure, Result.andThen_ok]

/-- Cells in a row, element for element. -/
def el {α : Type} (k : Nat) (g : Nat → α) (i j : Nat) : α := g (i * k + j)
theorem newRow_rep {φ F w} {ob : AObj} {e k n cap : Nat} {g : Nat → Nat → D} {cur : Array Value} {b : Nat} (hg : w.heap[b]? = some (.cells cur e (0, 0))) (hn : n ≤ cap) (hm : cap ≤ maxLen) (hs : cur.size = cap * k)
    (hc : cellsAt (repC φ F w) cur k n (fun i j => .d (g i j))) : objRep φ F w ⟨some b, k, cap, nofun⟩ (.row e k n g) :=
  ⟨rfl, hn, hm, .inr ⟨b, cur, rfl, hg, hs, hc⟩⟩
theorem newRowC_rep {φ F w} {e k n cap : Nat} {g : Nat → Nat → C} {cur : Array Value} {b : Nat} (hg : w.heap[b]? = some (.cells cur e (0, 0))) (hn : n ≤ cap) (hm : cap ≤ maxLen) (hs : cur.size = cap * k)
    (hc : cellsAt (repC φ F w) cur k n g) : objRep φ F w ⟨some b, k, cap, nofun⟩ (.rowC e k n g) :=
  ⟨rfl, hn, hm, .inr ⟨b, cur, rfl, hg, hs, hc⟩⟩
theorem made_at {P : Program} {T : TypeId} {X : TI} {zz : Nat → Value} (hT : TabOk P T X zz) {n i j : Nat} (hi : i < n) (hj : j < X.size) : ((Array.range (n * X.size)).map (X.zero.cells[· % X.zero.cells.size]!))[i * X.size + j]? = some (zz j) := by
  have hlt := mul_add_lt hi hj
  rw [Array.getElem?_map, Array.getElem?_range, if_pos hlt]
  simp only [Option.map_some, hT.zs, (at_cell hj).2]
  obtain ⟨h1, _⟩ := hT.zc j hj
  rw [getElem!_def, h1]

/-- The cells of a slice that is written out: closed, or not. -/
theorem OpS.buildSlC (id : Id) {parts : Array (Nat × Operand)} {X Y : TI} {zz : Nat → Value} {len : Nat} {e : TypeId} {qs : List (Nat × Nat × (Nat → C))} {g : Nat → C} {ob : AObj} (ho : o.op = .buildSlice T len parts) (hT : tiOf P T = some X) (hk : X.k = .slice e) (hT' : TabOk P e Y zz) (hne : len * Y.size ≠ 0) (hbig : len * Y.size ≤ 16777216)
    (hq : partsOf ae parts.toList = some qs) (hc : fillC (fun i => some (i * Y.size, Y.size)) (len * Y.size) (fun j => .d (.raw (zz (j % Y.size)))) qs = some g) (hob : ob = .rowC e Y.size len (el Y.size g) ∨ (closedTo (len * Y.size) g = true ∧ ob = .row e Y.size len (el Y.size fun j => (g j).toD))) : OpS P G o ae [] [] [] [(id, ob)] (.one (.sl id 0 len)) :=
  .new fun φ F w ρ hs hop hid => by
    obtain ⟨i1, d1, _, h4, _, _, _, h5⟩ := tiOf_spec hT
    have h6 := tk_slice (h5.trans hk)
    subst h6
    have h1 := partsOf_rep (φ := φ) (F := F) (w := w) (ρ := ρ) hq (fun p hp => hop p.2 (by simp only [ho, Op.operands]; simp; exact ⟨p.1, by simpa using hp⟩))
    have hrep0 : repG φ F w (len * Y.size) (fun j => .d (.raw (zz (j % Y.size)))) ((Array.range (len * Y.size)).map fun i => Y.zero.cells[i % Y.zero.cells.size]!).toList := by
      refine ⟨by simp, fun q u hu => ?_⟩
      have hq : q < len * Y.size := by have := (List.getElem?_eq_some_iff.1 hu).1; simpa using this
      obtain ⟨a1, a2, a3⟩ := div_lt hq
      have := made_at hT' a1 a2
      rw [a3] at this
      rw [Array.getElem?_toList, this] at hu
      cases hu
      simp only [repC, repD]
      exact ⟨trivial, (hT'.zc _ a2).2⟩
    obtain ⟨cells', h2, h3⟩ := fill_rep _ h1 hrep0 hc
    have hsz : cells'.size = len * Y.size := by simpa using h3.1
    refine ⟨.slice (some ⟨w.heap.size, 0, none⟩) len len, .cells cells' e, ⟨some w.heap.size, Y.size, len, nofun⟩, ?_, rfl, ?_, ?_⟩
    · unfold execOp
      have hbig' : ¬ len * Y.size > 2 ^ 24 := by omega
      have he : Instr.fill (fun i => some (i * Y.size, Y.size)) ((Array.range (len * Y.size)).map fun i => Y.zero.cells[i % Y.zero.cells.size]!) (Array.map (fun x => match x with | (i, x) => (i, ρ x)) parts).toList = some cells' := by
        rw [← h2]; congr 1
        simp
      simp only [ho, Instr.buildSlice, Sem.run_bind, run_underlying h4, Result.andThen_ok, run_sizeOf hT'.ti]
      rw [if_neg hbig']
      simp only [Sem.run_pure, Result.andThen_ok, Sem.run_bind]
      rw [if_neg hne]
      simp only [Sem.run_bind, run_zeroValue hT'.ti, Result.andThen_ok, Sem.run_pure, he, newRow, newObj, Sem.run]
      rfl
    · have hmax : len ≤ maxLen := by simp only [maxLen]; have : len ≤ len * Y.size := Nat.le_mul_of_pos_right _ (Nat.pos_of_ne_zero (fun h0 => hne (by rw [h0]; simp))); omega
      have hlat : Later φ F w (fun i => if i = id then some ⟨some w.heap.size, Y.size, len, nofun⟩ else φ i) F (w.alloc (.cells cells' e)) :=
        ⟨fun _ h => h, fun b hb => h_alloc_old w _ b (hs.frz b hb), fun i r hr => by
          by_cases e : i = id
          · subst e; rw [hid] at hr; cases hr
          · show (if i = id then _ else _) = _; rw [if_neg e]; exact hr⟩
      have hcell : ∀ i j, i < len → j < Y.size → ∃ u, cells'[i * Y.size + j]? = some u ∧ repC φ F w (g (i * Y.size + j)) u := by
        intro i j hi hj
        obtain ⟨u, hu, hr⟩ := h3.get (mul_add_lt hi hj)
        exact ⟨u, by simpa using hu, hr⟩
      rcases hob with rfl | ⟨hcl, rfl⟩
      · refine newRowC_rep (h_alloc_new w _) (Nat.le_refl _) hmax hsz fun i j hi hj => ?_
        obtain ⟨u, hu, hr⟩ := hcell i j hi hj
        exact ⟨u, hu, repC.later hlat _ _ hr⟩
      · refine newRow_rep (ob := .map (fun _ => True) []) (h_alloc_new w _) (Nat.le_refl _) hmax hsz fun i j hi hj => ?_
        obtain ⟨u, hu, hr⟩ := hcell i j hi hj
        refine ⟨u, hu, ?_⟩
        have h7 := closedTo_spec hcl (i * Y.size + j) (mul_add_lt hi hj)
        rw [h7] at hr
        exact repC.later hlat _ _ hr
    · simp only [repAV, repC]
      exact ⟨_, if_pos trivial, by simp, by simp⟩

/-! ### append -/
inductive Src (ae : Operand → Option AV) (x : Operand) : MIn → Nat → Nat → (Nat → Nat → D) → Prop where
  | lst {k m g} : ae x = some (.one (.d (.lst k m g))) → Src ae x [] k m g
  | nil {k g} : ae x = some (RV (.slice none 0 0)) → Src ae x [] k 0 g
  | row {k m n id lo e g} : ae x = some (.one (.sl id lo m)) → lo + m ≤ n → Src ae x [(id, .row e k n g)] k m (sh lo g)
inductive Snk (ae : Operand → Option AV) (x : Operand) (e k : Nat) : MIn → MOut → Nat → (Nat → Nat → D) → Prop where
  | nil {g} : ae x = some (RV (.slice none 0 0)) → Snk ae x e k [] [] 0 g
  | row {id n n' g} : ae x = some (.one (.sl id 0 n)) → n ≤ n' → Snk ae x e k [(id, .row e k n' g)] [(id, none)] n g

/-- What a source is, in memory. -/
theorem Src.at {G φ F w rd k m g} {ρ : Operand → Value} {mm : Mem} (h : Src ae x rd k m g) (hs : SimM G φ F mm w) (hin : ∀ id ob, rd.lookup id = some ob → mm id = some ob) (hx : ∀ u, ae x = some u → repAV φ F w u (ρ x)) :
    m ≤ maxLen ∧ ((∃ (ad : Addr) (c : Nat) (news : List Value), ρ x = .slice (some ad) m c ∧ news.length = m * k ∧ (∀ (j : Nat) (u : Value), news[j]? = some u → w.cell? (ad.add j) = some u) ∧ ∀ i j, i < m → j < k → ∃ u, news[i * k + j]? = some u ∧ repD F w (g i j) u) ∨ (m = 0 ∧ ∃ c, ρ x = .slice none 0 c)) := by
  have fin : ∀ (b off c : Nat) (g : Nat → Nat → D), (∀ i j, i < m → j < k → ∃ u, w.cell? ⟨b, off + (i * k + j), none⟩ = some u ∧ repD F w (g i j) u) → ∃ news : List Value, news.length = m * k ∧ (∀ (j : Nat) (u : Value), news[j]? = some u → w.cell? ((⟨b, off, none⟩ : Addr).add j) = some u) ∧ ∀ i j, i < m → j < k → ∃ u, news[i * k + j]? = some u ∧ repD F w (g i j) u := by
    intro b off c g hc
    obtain ⟨news, h1, h2⟩ := list_of (Q := fun q u => w.cell? ⟨b, off + q, none⟩ = some u ∧ repD F w (g (q / k) (q % k)) u) (m * k) fun q hq => by
      obtain ⟨a1, a2, a3⟩ := div_lt hq
      have := hc _ _ a1 a2
      rwa [a3] at this
    refine ⟨news, h1, fun j u hu => by rw [addr_add]; exact (h2 j u hu).1, fun i j hi hj => ?_⟩
    have hlt : i * k + j < news.length := by rw [h1]; exact mul_add_lt hi hj
    have := (h2 _ _ (List.getElem?_eq_getElem hlt)).2
    rw [(at_cell hj).1, (at_cell hj).2] at this
    exact ⟨_, List.getElem?_eq_getElem hlt, this⟩
  cases h with
  | lst hax =>
    have h1 := hx _ hax
    simp only [repAV, repC, repD] at h1
    obtain ⟨a, cap, h3, h4, h5, h6⟩ := h1
    refine ⟨by omega, ?_⟩
    rcases h6 with h6 | ⟨b, off, rfl, h7, h8⟩
    · subst h6
      cases a with
      | none => right; exact ⟨rfl, cap, h3⟩
      | some ad => left; exact ⟨ad, cap, [], h3, by simp, by simp, fun i j hi => by omega⟩
    · left
      obtain ⟨news, k1, k2, k3⟩ := fin b off cap g h8
      exact ⟨_, cap, news, h3, k1, k2, k3⟩
  | nil hax =>
    have h1 := rep_raw (hx _ hax)
    exact ⟨by simp, .inr ⟨rfl, 0, h1⟩⟩
  | @row _ _ n id lo e g hax hle =>
    have h1 := hx _ hax
    simp only [repAV, repC] at h1
    obtain ⟨r, hr, hv, hcap⟩ := h1
    obtain ⟨r', hr', k1, k2, k3, k4⟩ := hs.obj id _ (hin id (.row e k n g) (by simp [List.lookup_cons]))
    rw [hr] at hr'; cases hr'
    refine ⟨by omega, ?_⟩
    rcases k4 with ⟨k5, k6⟩ | ⟨b, cur, k5, k6, k7, k8⟩
    · have hm0 : m = 0 := by omega
      subst hm0
      right; exact ⟨rfl, _, by rw [hv, k5]; rfl⟩
    · left
      obtain ⟨news, j1, j2, j3⟩ := fin b (lo * k) 0 (sh lo g) fun i j hi hj => by
        obtain ⟨u, hu, hr⟩ := k8 (lo + i) j (by omega) hj
        refine ⟨u, ?_, by rw [sh_eq]; simpa only [repC] using hr⟩
        rw [cell_of_row w b _ cur e (0, 0) k6, ← hu]
        congr 1
        rw [Nat.add_mul]; omega
      exact ⟨_, _, news, by rw [hv, k5, k1]; rfl, j1, j2, j3⟩

theorem Snk.at {G φ F w e k wi wo n g} {ρ : Operand → Value} {mm : Mem} (h : Snk ae s e k wi wo n g) (hs : SimM G φ F mm w) (hin : ∀ id ob, wi.lookup id = some ob → mm id = some ob) (hx : ∀ u, ae s = some u → repAV φ F w u (ρ s)) :
    ∃ xs : List Value, w.ownsRow 0 e k (ρ s) n xs ∧ (∀ i j, i < n → j < k → ∃ u, xs[i * k + j]? = some u ∧ repD F w (g i j) u) ∧ (∀ b, (ρ s).ownBlock = some b → liveBlk φ (ofIn wi) b) := by
  cases h with
  | nil hax =>
    have h1 := rep_raw (hx _ hax)
    refine ⟨[], ?_, fun i j hi => by omega, ?_⟩
    · rw [h1]; exact World.ownsRow_nil w 0 e k
    · intro b hb; rw [h1] at hb; simp [Value.ownBlock] at hb
  | @row id _ n' g hax hle =>
    have h1 := hx _ hax
    simp only [repAV, repC] at h1
    obtain ⟨r, hr, hv, hcap⟩ := h1
    obtain ⟨r', hr', ho⟩ := hs.obj id (.row e k n' g) (hin id _ (by simp [List.lookup_cons]))
    rw [hr] at hr'; cases hr'
    obtain ⟨k2, k3, k4, k5⟩ := ho
    rcases k5 with ⟨k6, k7⟩ | ⟨b, cur, k6, k7, k8, k9⟩
    · have hn0 : n = 0 := by omega
      subst hn0
      refine ⟨[], ?_, fun i j hi => by omega, ?_⟩
      · rw [hv, k6, k7]; exact World.ownsRow_nil w 0 e k
      · intro b hb; rw [hv, k6] at hb; simp [Value.ownBlock] at hb
    · refine ⟨cur.toList.take (n * k), ⟨?_, .inr ⟨b, r.cap, cur, ?_, Nat.zero_le _, k7, by omega, k4, k8, rfl⟩⟩, ?_, ?_⟩
      · rw [List.length_take, Array.length_toList, k8]
        exact Nat.min_eq_left (Nat.mul_le_mul_right _ (by omega))
      · rw [hv, k6]; simp
      · intro i j hi hj
        obtain ⟨u, hu, hrr⟩ := k9 i j (by omega) hj
        refine ⟨u, ?_, by simpa only [repC] using hrr⟩
        rw [List.getElem?_take, if_pos (mul_add_lt hi hj)]
        simpa using hu
      · intro b' hb'
        rw [hv, k6] at hb'
        simp [Value.ownBlock] at hb'
        subst hb'
        exact ⟨id, .row e k n' g, r, by simp [ofIn, List.lookup_cons], hr, k6⟩

/-- From the kit's word on an owned row to an object. -/
theorem obj_of_own {φ F w e k v n xs} {g : Nat → Nat → D} (h : World.ownsRow w 0 e k v n xs) (hd : ∀ i j, i < n → j < k → ∃ u, xs[i * k + j]? = some u ∧ repD F w (g i j) u) :
    ∃ r : Ref, objRep φ F w r (.row e k n g) ∧ v = .slice (r.b.map fun b => ⟨b, 0 * r.k, none⟩) n (r.cap - 0) ∧ 0 + n ≤ r.cap ∧ r.b = v.ownBlock := by
  rcases h.2 with ⟨rfl, rfl⟩ | ⟨b, cap, cur, rfl, _, hg, hn, hm, hs, ht⟩
  · exact ⟨⟨none, k, 0, fun _ => rfl⟩, ⟨rfl, Nat.le_refl _, Nat.zero_le _, .inl ⟨rfl, rfl⟩⟩, rfl, Nat.le_refl _, rfl⟩
  · refine ⟨⟨some b, k, cap, nofun⟩, ⟨rfl, hn, hm, .inr ⟨b, cur, rfl, hg, hs, ?_⟩⟩, by simp, by simpa using hn, rfl⟩
    intro i j hi hj
    obtain ⟨u, hu, hr⟩ := hd i j hi hj
    refine ⟨u, ?_, by simpa only [repC] using hr⟩
    rw [← ht, List.getElem?_take] at hu
    split at hu
    · simpa using hu
    · cases hu

/-- One list of elements behind another. -/
def appG {α : Type} (n : Nat) (g es : Nat → α) : Nat → α := fun i => if i < n then g i else es (i - n)
theorem run_append_none_blk {P : Program} (w : World) (t ty e : TypeId) (i : TypeInfo) (size : Nat) (ht : P.underlying t = some (.slice e)) (hi : P.info? e = some i) (hsize : i.size = size) (v : Value) (n : Nat) (xs : List Value) (hown : w.ownsRow 0 e size v n xs) (c : Nat) :
    (Builtin.append_ #[t, t] ty #[v, .slice none 0 c]).run P w = .ok v w ∧ w.grownBy w v.ownBlock := by
  refine ⟨?_, ⟨rfl, rfl, rfl, Nat.le_refl _, fun _ _ _ => rfl⟩⟩
  rcases hown.2 with ⟨rfl, rfl⟩ | ⟨g, cap, cur, rfl, _, _, hnc, _⟩
  · simp [Builtin.append_, run_underlying ht, sizeOf, typeInfo, hi, Builtin.lenOf, Builtin.firstCells]
  · simp [Builtin.append_, run_underlying ht, sizeOf, typeInfo, hi, Builtin.lenOf, Builtin.firstCells, hnc, storeCells]
theorem OpS.app (idn : Id) {t e k m n : Nat} {rd wi : MIn} {wo : MOut} {g es : Nat → Nat → D} {X Y : TI} {bytes : Nat} (ho : o.op = .call { callee := .builtin .append, args := #[s, x], argTypes := #[t, t] }) (hsrc : Src ae x rd k m es) (hsnk : Snk ae s e k wi wo n g)
    (hT : tiOf P t = some X) (hk : X.k = .slice e) (hT' : tiOf P e = some Y) (hks : Y.size = k) (hby : Y.bytes = bytes) (hzs : Y.zero.cells.size = k) (hk0 : 0 < k) (hb0 : 0 < bytes) (hdis : (keys wi).all (fun id => !(keys rd).contains id) = true) (hbound : (n + m) * bytes ≤ 140737488355328) : OpS P G o ae rd wi wo [(idn, .row e k (n + m) (appG n g es))] (.one (.sl idn 0 (n + m))) := by
  intro φ F w ρ hs hop hnw
  have hidn : φ idn = none := hnw idn (by simp [keys])
  obtain ⟨i1, d1, _, h4, _, _, _, h5⟩ := tiOf_spec hT
  have h6 := tk_slice (h5.trans hk)
  subst h6
  obtain ⟨i2, d2, hi2, _, hz2, hsz2, hby2, _⟩ := tiOf_spec hT'
  have hopx : ∀ u, ae x = some u → repAV φ F w u (ρ x) := hop x (by simp [ho, Op.operands, Call.operands])
  have hops : ∀ u, ae s = some u → repAV φ F w u (ρ s) := hop s (by simp [ho, Op.operands, Call.operands])
  have hinr : ∀ id ob, rd.lookup id = some ob → ofIn (rd ++ wi) id = some ob := by
    intro id ob h; unfold ofIn; rw [lookup_append, h]; rfl
  have hwr : ∀ id, id ∈ keys wi → id ∉ keys rd := by
    intro id hid
    have := List.all_eq_true.1 hdis id hid
    simpa [List.contains_iff_mem] using this
  have hinw : ∀ id ob, wi.lookup id = some ob → ofIn (rd ++ wi) id = some ob := by
    intro id ob h
    have : rd.lookup id = none := lookup_none_keys.2 (hwr id (by rw [lookup_keys, h]; rfl))
    unfold ofIn; rw [lookup_append, this, h]; rfl
  obtain ⟨hmm, hsv⟩ := hsrc.at hs hinr hopx
  obtain ⟨xs, hown, hxs, hblk⟩ := hsnk.at hs hinw hops
  have hlive : ∀ b, (ρ s).ownBlock = some b → ¬ F b ∧ b < w.heap.size := by
    intro b hb
    obtain ⟨id, ob, r, h1, h2, h3⟩ := hblk b hb
    exact hs.live b ⟨id, ob, r, hinw id ob h1, h2, h3⟩
  have hwo : ∀ id o, wo.lookup id = some o → o = none ∧ id ∈ keys wi := by
    intro id o hl
    cases hsnk with
    | nil => cases hl
    | @row i _ _ _ hax hle =>
      simp only [List.lookup_cons, List.lookup_nil] at hl
      cases hbb : (id == i) with
      | false => rw [hbb] at hl; cases hl
      | true =>
        rw [hbb] at hl; cases hl
        have : id = i := by simpa using hbb
        subst this
        exact ⟨rfl, by simp [keys]⟩
  have hwk : keys wo = keys wi := by cases hsnk <;> rfl
  have fin : ∀ (news : List Value) v' w', (execOp ρ o).run P w = .ok (.value v') w' → (∀ i j, i < m → j < k → ∃ u, news[i * k + j]? = some u ∧ repD F w (es i j) u) → w'.ownsRow 0 e k v' (n + m) (xs ++ news) → w.grownBy w' (ρ s).ownBlock → v'.ownBlock = (ρ s).ownBlock ∨ (∃ b, v'.ownBlock = some b ∧ w.heap.size ≤ b) ∨ v'.ownBlock = none →
      Yield P ((execOp ρ o).run P w) fun u w' => ∃ φ' F', SimM G φ' F' (ofOut (outs rd wo [(idn, .row e k (n + m) (appG n g es))])) w' ∧ repAV φ' F' w' (.one (.sl idn 0 (n + m))) u ∧ Since φ F (ofIn (rd ++ wi)) w φ' F' (ofOut (outs rd wo [(idn, .row e k (n + m) (appG n g es))])) w' ∧ ∀ id, id ∉ keys (outs rd wo [(idn, .row e k (n + m) (appG n g es))]) → φ' id = φ id := by
    intro news v' w' hrun hnews hown' hg hblk'
    rw [hrun]
    have hkeepF : ∀ b, F b → w'.heap[b]? = w.heap[b]? := fun b hb => hg.block b (hs.frz b hb) (fun e => (hlive b e.symm).1 hb)
    have hxl : xs.length = n * k := hown.1
    obtain ⟨r, ho', hv', hcap', hrb⟩ := obj_of_own (φ := fun i => if i = idn then some { b := v'.ownBlock, k := k, cap := 0 } else φ i) (F := F) (g := appG n g es) hown' (by
      intro i j hi hj
      unfold appG
      by_cases hin : i < n
      · simp only [if_pos hin]
        obtain ⟨u, hu, hr⟩ := hxs i j hin hj
        refine ⟨u, ?_, repD.later (fun _ h => h) hkeepF _ u hr⟩
        rw [List.getElem?_append_left (List.getElem?_eq_some_iff.1 hu).1]; exact hu
      · simp only [if_neg hin]
        obtain ⟨u, hu, hr⟩ := hnews (i - n) j (by omega) hj
        refine ⟨u, ?_, repD.later (fun _ h => h) hkeepF _ u hr⟩
        have h7 : i * k + j = n * k + ((i - n) * k + j) := by rw [← Nat.add_assoc, ← Nat.add_mul]; congr 2; omega
        rw [h7, List.getElem?_append_right (by omega), hxl, Nat.add_sub_cancel_left]
        exact hu)
    let φ' : Id → Option Ref := fun i => if i = idn then some r else φ i
    have ho2 : objRep φ' F w' r (.row e k (n + m) (appG n g es)) := ho'
    have hidnk : idn ∉ keys (rd ++ wi) := by
      intro hk
      rw [lookup_keys] at hk
      obtain ⟨ob, hob⟩ := Option.isSome_iff_exists.1 hk
      obtain ⟨r0, hr0, _⟩ := hs.obj idn ob hob
      rw [hidn] at hr0; cases hr0
    have hlat : Later φ F w φ' F w' := ⟨fun _ h => h, hkeepF, fun i r' hr' => by
      by_cases e : i = idn
      · subst e; rw [hidn] at hr'; cases hr'
      · show (if i = idn then _ else _) = _; rw [if_neg e]; exact hr'⟩
    have hout : ∀ i ob, ofOut (outs rd wo [(idn, .row e k (n + m) (appG n g es))]) i = some ob → (i = idn ∧ ob = .row e k (n + m) (appG n g es)) ∨ (i ≠ idn ∧ i ∉ keys wi ∧ rd.lookup i = some ob) := by
      intro i ob hi
      unfold ofOut outs at hi
      rw [lookup_append, lookup_append] at hi
      simp only [lift, List.map_cons, List.map_nil, List.lookup_cons, List.lookup_nil] at hi
      cases hbb : (i == idn) with
      | true => rw [hbb] at hi; simp at hi; exact .inl ⟨by simpa using hbb, hi.symm⟩
      | false =>
        rw [hbb] at hi
        simp only [Option.none_or] at hi
        refine .inr ⟨by simpa using hbb, ?_⟩
        cases hl : wo.lookup i with
        | some o => rw [hl] at hi; rw [(hwo i o hl).1] at hi; cases hi
        | none =>
          rw [hl] at hi
          refine ⟨by rw [← hwk]; exact lookup_none_keys.1 hl, ?_⟩
          simp only [Option.none_or] at hi
          have h7 := lookup_lift rd i
          unfold lift at h7
          rw [h7] at hi
          cases h8 : rd.lookup i with
          | none => rw [h8] at hi; cases hi
          | some o => rw [h8] at hi; simpa using hi
    -- a block of what is read
    have hrd : ∀ i ob r0 b, i ∉ keys wi → rd.lookup i = some ob → φ i = some r0 → r0.b = some b → some b ≠ (ρ s).ownBlock ∧ b < w.heap.size ∧ ¬ F b := by
      intro i ob r0 b hi hl hr hb
      have h7 := hs.live b ⟨i, ob, r0, hinr i ob hl, hr, hb⟩
      refine ⟨fun e => ?_, h7.2, h7.1⟩
      obtain ⟨id, ob2, r2, h8, h9, h10⟩ := hblk b e.symm
      have := hs.inj i id ob ob2 r0 r2 b (hinr i ob hl) (hinw id ob2 h8) hr h9 hb h10
      subst this
      exact hi (by rw [lookup_keys]; unfold ofIn at h8; rw [h8]; rfl)
    have hφi : ∀ i, i ≠ idn → φ' i = φ i := fun i hi => if_neg hi
    have hφn : φ' idn = some r := if_pos rfl
    have hrlt : ∀ b, r.b = some b → b < w'.heap.size := by
      intro b hb
      rw [hrb] at hb
      exact (hown'.lt b hb).2
    have hrnF : ∀ b, r.b = some b → ¬ F b := by
      intro b hb hF
      rw [hrb] at hb
      rcases hblk' with h7 | ⟨b', h7, h8⟩ | h7
      · exact (hlive b (by rw [← h7]; exact hb)).1 hF
      · rw [hb] at h7; cases h7; have := hs.frz b hF; omega
      · rw [hb] at h7; cases h7
    have hrne : ∀ b, r.b = some b → ∀ i ob r0, i ∉ keys wi → rd.lookup i = some ob → φ i = some r0 → r0.b ≠ some b := by
      intro b hb i ob r0 hi hl hr hb0
      obtain ⟨h7, h8, _⟩ := hrd i ob r0 b hi hl hr hb0
      rw [hrb] at hb
      rcases hblk' with h9 | ⟨b', h9, h10⟩ | h9
      · exact h7 (by rw [← h9]; exact hb.symm)
      · rw [hb] at h9; cases h9; omega
      · rw [hb] at h9; cases h9
    have hgoal : ∃ φ' F', SimM G φ' F' (ofOut (outs rd wo [(idn, .row e k (n + m) (appG n g es))])) w' ∧ repAV φ' F' w' (.one (.sl idn 0 (n + m))) v' ∧ Since φ F (ofIn (rd ++ wi)) w φ' F' (ofOut (outs rd wo [(idn, .row e k (n + m) (appG n g es))])) w' ∧ ∀ id, id ∉ keys (outs rd wo [(idn, .row e k (n + m) (appG n g es))]) → φ' id = φ id := by
      refine ⟨φ', F, ⟨?_, ?_, ?_, ?_, ?_⟩, ?_, ⟨hg.os, hg.tape, hg.output, hg.size, ?_, fun _ h => h, fun _ h => .inl h, ?_, ?_⟩, ?_⟩
      · intro i ob hi
        rcases hout i ob hi with ⟨rfl, rfl⟩ | ⟨h7, h8, h9⟩
        · exact ⟨r, hφn, ho2⟩
        · obtain ⟨r0, hr0, hor⟩ := hs.obj i ob (hinr i ob h9)
          refine ⟨r0, by rw [hφi i h7]; exact hr0, objRep.later hlat (fun b hb => ?_) hor⟩
          obtain ⟨h10, h11, _⟩ := hrd i ob r0 b h8 h9 hr0 hb
          exact hg.block b h11 h10
      · rintro b ⟨i, ob, r0, hi, hr0, hb⟩
        rcases hout i ob hi with ⟨rfl, rfl⟩ | ⟨h7, h8, h9⟩
        · rw [hφn] at hr0; cases hr0
          exact ⟨hrnF b hb, hrlt b hb⟩
        · rw [hφi i h7] at hr0
          obtain ⟨_, h11, h12⟩ := hrd i ob r0 b h8 h9 hr0 hb
          exact ⟨h12, Nat.lt_of_lt_of_le h11 hg.size⟩
      · intro i1 i2 o1 o2 r1 r2 b h1 h2 h3 h4' h5' h6'
        rcases hout i1 o1 h1 with ⟨rfl, rfl⟩ | ⟨a1, a2, a3⟩ <;> rcases hout i2 o2 h2 with ⟨h7, rfl⟩ | ⟨b1, b2, b3⟩
        · exact h7.symm
        · rw [hφn] at h3; cases h3
          rw [hφi i2 b1] at h4'
          exact (hrne b h5' i2 o2 r2 b2 b3 h4' h6').elim
        · subst h7
          rw [hφn] at h4'; cases h4'
          rw [hφi i1 a1] at h3
          exact (hrne b h6' i1 o1 r1 a2 a3 h3 h5').elim
        · rw [hφi i1 a1] at h3
          rw [hφi i2 b1] at h4'
          exact hs.inj i1 i2 o1 o2 r1 r2 b (hinr _ _ a3) (hinr _ _ b3) h3 h4' h5' h6'
      · intro b hb; exact Nat.lt_of_lt_of_le (hs.frz b hb) hg.size
      · intro p hp
        obtain ⟨h7, h8⟩ := hs.amb p hp
        exact ⟨h7, (World.cell?_of_block (w := w) (hkeepF _ h7)).trans h8⟩
      · simp only [repAV, repC]
        exact ⟨r, hφn, hv', hcap'⟩
      · intro b hb hl
        refine hg.block b hb fun e => hl ?_
        obtain ⟨id, ob2, r2, h8, h9, h10⟩ := hblk b e.symm
        exact ⟨id, ob2, r2, hinw id ob2 h8, h9, h10⟩
      · rintro b ⟨i, ob, r0, hi, hr0, hb⟩
        rcases hout i ob hi with ⟨rfl, rfl⟩ | ⟨h7, h8, h9⟩
        · rw [hφn] at hr0; cases hr0
          rw [hrb] at hb
          rcases hblk' with h10 | ⟨b', h10, h11⟩ | h10
          · right
            obtain ⟨id, ob2, r2, h12, h13, h14⟩ := hblk b (by rw [← h10]; exact hb)
            exact ⟨id, ob2, r2, hinw id ob2 h12, h13, h14⟩
          · rw [hb] at h10; cases h10; exact .inl h11
          · rw [hb] at h10; cases h10
        · rw [hφi i h7] at hr0
          exact .inr ⟨i, ob, r0, hinr i ob h9, hr0, hb⟩
      · intro i ob hi
        refine hφi i fun e => hidnk ?_
        subst e
        rw [lookup_keys]; unfold ofIn at hi; rw [hi]; rfl
      · intro i hi
        refine hφi i fun e => hi ?_
        rw [outs, keys_append]
        exact List.mem_append_left _ (by rw [keys_lift, e]; simp [keys])
    exact hgoal
  have hexec : ∀ r, (Builtin.append_ #[t, t] o.type #[ρ s, ρ x]).run P w = r → (execOp ρ o).run P w = r.andThen fun v w => .ok (.value v) w := by
    intro r hr
    unfold execOp
    simp only [ho, resolve, Sem.run_bind, Sem.run_pure, Result.andThen_ok, invoke, Go.builtin, List.map_toArray, List.map_cons, List.map_nil, hr]
  rcases hsv with ⟨ad, c, news, hx, hnl, hnc, hnd⟩ | ⟨hm0, c, hx⟩
  · have hone : ∀ u ∈ news, u.oneCell' = true := by
      intro u hu
      obtain ⟨j, hj, he⟩ := List.getElem_of_mem hu
      obtain ⟨a1, a2, a3⟩ := div_lt (show j < m * k by omega)
      obtain ⟨u', hu', hr⟩ := hnd _ _ a1 a2
      rw [a3, List.getElem?_eq_getElem hj, he] at hu'
      cases hu'
      exact repD.one hr
    have h63 : n + m ≤ maxLen := by
      simp only [maxLen]
      have : n + m ≤ (n + m) * bytes := Nat.le_mul_of_pos_right _ hb0
      omega
    obtain ⟨v', w', hr, h7, h8, _, h9⟩ := run_append_own_at (P := P) w 0 t o.type e i2 Y.zero k bytes h4 hi2 hz2 (hsz2.trans hks) (hby2.trans hby) hzs hk0 (ρ s) n xs hown ad m c news hnl hnc hone h63 hbound (Nat.zero_le _)
    rw [← hx] at hr
    exact fin news v' w' (by rw [hexec _ hr]; rfl) hnd h7 h8 (h9.imp id fun h => .inl ⟨_, h, Nat.le_refl _⟩)
  · subst hm0
    obtain ⟨hr, hgr⟩ := run_append_none_blk (P := P) w t o.type e i2 k h4 hi2 (hsz2.trans hks) (ρ s) n xs hown c
    rw [← hx] at hr
    refine fin [] (ρ s) w (by rw [hexec _ hr]; rfl) (fun i j hi => by omega) (by simpa using hown) hgr (.inl rfl)
end
end Go.Bw
