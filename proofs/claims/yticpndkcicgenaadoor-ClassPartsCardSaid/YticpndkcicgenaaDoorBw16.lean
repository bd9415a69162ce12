/- Abstract walk over contents given by functions, part 16: operations that the reader says; facts; lists. -/
import Derived.Test.YticpndkcicgenaaDoorBw15
set_option linter.unusedVariables false
set_option linter.unusedSimpArgs false
namespace Go.Bw
open Go.RowKit

section
variable {E : Env} {ops : List Oper} {o : Oper} {fr : Fr} {m : MOut} {ids : List Id} {K : Kt} {v : AV}
/-- Reads nothing. -/
theorem opx_q (h : OpS E.P E.G o (aev fr) [] [] [] [] v) (k : putRec E.N o.dst ⟨[], [], [], [], v, true, none⟩ fr m ids K) : OpX E ops o fr m ids K :=
  opx_mk ⟨[], [], [], [], v, true, none⟩ ⟨rfl, ⟨h, trivial, trivial, rfl, rfl⟩, fun _ _ _ h => by cases h⟩ k
/-- Reads objects. -/
theorem opx_rd {rd : MIn} (h : OpS E.P E.G o (aev fr) rd [] [] [] v) (h1 : Sub rd m) (k : putRec E.N o.dst ⟨rd, [], [], [], v, true, none⟩ fr m ids K) : OpX E ops o fr m ids K :=
  opx_mk ⟨rd, [], [], [], v, true, none⟩ ⟨rfl, ⟨h, h1, trivial, rfl, rfl⟩, fun _ _ _ h => by cases h⟩ k
/-- A read that another operation's write (the j-th's, after which the object is ob2) does not hurt. -/
theorem opx_soft (j : Nat) {id : Id} {ob ob2 : AObj} (h : OpS E.P E.G o (aev fr) [(id, ob)] [] [] [] v) (h2 : OpS E.P E.G o (aev fr) [(id, ob2)] [] [] [] v) (h1 : Sub [(id, ob)] m) (k : putRec E.N o.dst ⟨[(id, ob)], [], [], [], v, true, some (j, id, ob2)⟩ fr m ids K) : OpX E ops o fr m ids K :=
  opx_mk ⟨[(id, ob)], [], [], [], v, true, some (j, id, ob2)⟩ ⟨rfl, ⟨h, h1, trivial, rfl, rfl⟩, fun _ _ _ e => by cases e; exact ⟨rfl, rfl, rfl, rfl, h2⟩⟩ k
/-- Changes an object. -/
theorem opx_wi {id : Id} {ob ob' : AObj} (h : OpS E.P E.G o (aev fr) [] [(id, ob)] [(id, some ob')] [] v) (h1 : Sub [(id, ob)] m) (k : putRec E.N o.dst ⟨[], [(id, ob)], [(id, some ob')], [], v, true, none⟩ fr m ids K) : OpX E ops o fr m ids K :=
  opx_mk ⟨[], [(id, ob)], [(id, some ob')], [], v, true, none⟩ ⟨rfl, ⟨h, trivial, h1, rfl, rfl⟩, fun _ _ _ h => by cases h⟩ k
end

theorem draw_soft {ops : List Oper} {tr : List RecD} (h : orderOk ops tr.reverse = true) (h2 : SoftAll tr.reverse (softs tr.reverse)) : DrawOk ops tr := by
  unfold DrawOk; exact ⟨h, h2⟩

section
variable {P : Program} {G : List (Addr × Value)} {o : Oper} {ae : Operand → Option AV} {x y z s : Operand} {v : AV} {T yT : TypeId}
theorem OpS.idxG {g n : Nat} {k : IntKind} {a : Int} (i : Nat) {X Y : TI} {T' : TypeId} (ho : o.op = .indexAddr T x y) (hx : ae x = some (RV (.pointer (some ⟨g, 0, none⟩)))) (hy : ae y = some (AI k a)) (ha : a = (i : Int)) (hT : tiOf P T = some X) (hk : X.k = .array n T') (hT' : tiOf P T' = some Y)
    (h1 : i < n) (hs : Y.size = 1) : OpS P G o ae [] [] [] [] (RV (.pointer (some ⟨g, i, none⟩))) :=
  .quiet fun φ F w ρ hs' hop => by
    subst ha
    have e1 := rep_raw (hop x (by simp [ho, Op.operands]) _ hx)
    have e2 := rep_raw (hop y (by simp [ho, Op.operands]) _ hy)
    obtain ⟨i1, d1, _, h4, _, _, _, h5⟩ := tiOf_spec hT
    have h6 := tk_array (h5.trans hk)
    subst h6
    refine ⟨.pointer (some ⟨g, i, none⟩), ?_, rep_raw_mk rfl⟩
    have hi0 : (0 : Int) ≤ (i : Int) ∧ (i : Int) < (n : Int) := ⟨by omega, by omega⟩
    unfold execOp
    simp only [ho, e1, e2, Instr.indexAt, asIntOf, Instr.sureAddr, Sem.run_bind, Sem.run_pure, run_underlying h4, Result.andThen_ok, hi0, and_self, if_true, run_sizeOf hT', addr_add, hs]
    simp
end

section
variable {E : Env} {c : Code} {K : Kc} {fr : Fr} {m : MOut} {ids : List Id}
theorem code_lst (t : Nat) {k n : Nat} {g : Nat → Nat → D} (h : fr.lookup t = some (.one (.d (.lst k n g)))) (hk : n ≤ 9223372036854775807 → CodeW E c K fr m ids) : CodeW E c K fr m ids := by
  rw [code_iff]; exact awp_lst t h fun h => by rw [← code_iff]; exact hk h
theorem code_row (id : Id) {e k n : Nat} {g : Nat → Nat → D} (h : ofOut m id = some (.row e k n g)) (hk : n ≤ 9223372036854775807 → CodeW E c K fr m ids) : CodeW E c K fr m ids := by
  rw [code_iff]; exact awp_row id h fun h => by rw [← code_iff]; exact hk h
theorem loop_lst (t : Nat) {k n : Nat} {g : Nat → Nat → D} (h : fr.lookup t = some (.one (.d (.lst k n g)))) (hk : n ≤ 9223372036854775807 → LoopW E c K fr m ids) : LoopW E c K fr m ids := by
  rw [loop_iff]; exact awp_lst t h fun h => by rw [← loop_iff]; exact hk h
end

/-! ### slots that are forgotten -/
theorem dropF_none {ts : List Nat} {t : Nat} (h : memN t ts = true) : ∀ l : Fr, (dropF ts l).lookup t = none
  | [] => rfl
  | (t0, v0) :: l => by
    unfold dropF
    cases hm : memN t0 ts with
    | true => exact dropF_none h l
    | false =>
      show ((t0, v0) :: dropF ts l).lookup t = none
      have : t ≠ t0 := fun e => by subst e; rw [h] at hm; cases hm
      rw [List.lookup_cons, beq_false_of_ne this]
      exact dropF_none h l
theorem dropF_get {ts : List Nat} {t : Nat} {v : AV} : ∀ {l : Fr}, (dropF ts l).lookup t = some v → l.lookup t = some v
  | [], h => h
  | (t0, v0) :: l, h => by
    unfold dropF at h
    cases hm : memN t0 ts with
    | true =>
      rw [hm] at h
      have h1 : (dropF ts l).lookup t = some v := h
      clear h
      have : t ≠ t0 := fun e => by subst e; rw [dropF_none hm] at h1; cases h1
      rw [List.lookup_cons, beq_false_of_ne this]
      exact dropF_get h1
    | false =>
      rw [hm] at h
      have h : ((t0, v0) :: dropF ts l).lookup t = some v := h
      rw [List.lookup_cons] at h ⊢
      split
      · rename_i e; rw [e] at h; exact h
      · rename_i e; rw [e] at h; exact dropF_get h
theorem ent_drop {E : Env} (ts : List Nat) {fr : Fr} {m : MOut} {ids : List Id} : Ent E ⟨fr, m, ids⟩ ⟨dropF ts fr, m, ids⟩ := fun a w φ F hs =>
  ⟨φ, F, { hs with slots := fun t v h => hs.slots t v (dropF_get h) }⟩
theorem loop_forget {E : Env} {c : Code} {K : Kc} {fr : Fr} {m : MOut} {ids : List Id} (ts : List Nat) (h : LoopW E c K (dropF ts fr) m ids) : LoopW E c K fr m ids := by
  rw [loop_iff] at h ⊢; exact awp_ent (ent_drop ts) h
theorem code_forget {E : Env} {c : Code} {K : Kc} {fr : Fr} {m : MOut} {ids : List Id} (ts : List Nat) (h : CodeW E c K (dropF ts fr) m ids) : CodeW E c K fr m ids := by
  rw [code_iff] at h ⊢; exact awp_ent (ent_drop ts) h

/-! ### rows whose elements are of a list -/
abbrev rowL {α : Type} (e k : Nat) (f : α → Nat → D) (d : α) (L : List α) : AObj := .row e k L.length (fun i => f (L.getD i d))
abbrev lstL {α : Type} (k : Nat) (f : α → Nat → D) (d : α) (L : List α) : D := .lst k L.length (fun i => f (L.getD i d))
theorem getD_lt {α : Type} {L : List α} {d : α} {i : Nat} (h : i < L.length) : L.getD i d = L[i] := by
  rw [List.getD_eq_getElem?_getD, List.getElem?_eq_getElem h]; rfl
theorem getD_app_l {α : Type} {L M : List α} {d : α} {i : Nat} (h : i < L.length) : (L ++ M).getD i d = L.getD i d := by
  rw [List.getD_eq_getElem?_getD, List.getElem?_append_left h, List.getD_eq_getElem?_getD]
theorem getD_app_r {α : Type} {L M : List α} {d : α} {i : Nat} (h : L.length ≤ i) : (L ++ M).getD i d = M.getD (i - L.length) d := by
  rw [List.getD_eq_getElem?_getD, List.getElem?_append_right h, List.getD_eq_getElem?_getD]
theorem co_app {α : Type} {f : α → Nat → D} {d : α} {L M N : List α} {k : Nat} {es : Nat → Nat → D} (he : N = L ++ M) (hx : ∀ i j, i < M.length → j < k → CoD (es i j) (f (M.getD i d) j)) :
    ∀ i j, i < N.length → j < k → CoD (appG L.length (fun i => f (L.getD i d)) es i j) (f (N.getD i d) j) := by
  subst he
  intro i j hi hj
  rw [List.length_append] at hi
  unfold appG
  split
  · rename_i h; rw [getD_app_l h]; exact CoD.refl _
  · rename_i h; rw [getD_app_r (by omega)]; exact hx _ _ (by omega) hj
theorem co_snoc {α : Type} {f : α → Nat → D} {d x : α} {L N : List α} {k : Nat} {es : Nat → Nat → D} (he : N = L ++ [x]) (hx : ∀ j, j < k → CoD (es 0 j) (f x j)) :
    ∀ i j, i < N.length → j < k → CoD (appG L.length (fun i => f (L.getD i d)) es i j) (f (N.getD i d) j) :=
  co_app he fun i j hi hj => by
    have : i = 0 := by simp at hi; omega
    subst this; exact hx j hj
theorem co_snocP {α : Type} {f : α → Nat → D} {d x : α} {L N : List α} {k : Nat} {es : Nat → Nat → D} (he : N = L ++ [x]) (hx : allP k fun j => chkD (es 0 j) (f x j)) :
    ∀ i j, i < N.length → j < k → CoD (appG L.length (fun i => f (L.getD i d)) es i j) (f (N.getD i d) j) :=
  co_snoc he fun j hj => chkD_ok (allP_ok hx j hj)
theorem co_app2 {α : Type} {f : α → Nat → D} {d : α} {L M N : List α} {k n : Nat} {g es : Nat → Nat → D} (hn : n = L.length) (hg : ∀ i j, i < L.length → j < k → CoD (g i j) (f (L.getD i d) j)) (hx : ∀ i j, i < M.length → j < k → CoD (es i j) (f (M.getD i d) j)) (he : N = L ++ M) :
    ∀ i j, i < N.length → j < k → CoD (appG n g es i j) (f (N.getD i d) j) := by
  subst he; subst hn
  intro i j hi hj
  rw [List.length_append] at hi
  unfold appG
  split
  · rename_i h; rw [getD_app_l h]; exact hg _ _ h hj
  · rename_i h; rw [getD_app_r (by omega)]; exact hx _ _ (by omega) hj
theorem co_oneP {α : Type} {f : α → Nat → D} {d x : α} {k : Nat} {es : Nat → Nat → D} {N : List α} (he : N = [x]) (hx : allP k fun j => chkD (es 0 j) (f x j)) :
    ∀ i j, i < N.length → j < k → CoD (es i j) (f (N.getD i d) j) := by
  subst he
  intro i j hi hj
  have : i = 0 := by simp at hi; omega
  subst this; exact chkD_ok (allP_ok hx j hj)
theorem co_snoc2P {α : Type} {f : α → Nat → D} {d x y : α} {L N : List α} {k n : Nat} {es es2 : Nat → Nat → D} (he : N = L ++ [x, y]) (hn : n = L.length + 1) (hx : allP k fun j => chkD (es 0 j) (f x j)) (hy : allP k fun j => chkD (es2 0 j) (f y j)) :
    ∀ i j, i < N.length → j < k → CoD (appG n (appG L.length (fun i => f (L.getD i d)) es) es2 i j) (f (N.getD i d) j) :=
  co_app2 (L := L ++ [x]) (M := [y]) (by rw [hn]; simp) (co_snocP rfl hx) (co_oneP rfl hy) (by rw [he]; simp)
theorem co_set {α : Type} {f : α → Nat → D} {d x : α} {L N : List α} {k n : Nat} {h : Nat → D} (i0 : Nat) (he : N = L.set n x) (hi : i0 = n) (hx : ∀ j, j < k → CoD (h j) (f x j)) :
    ∀ i j, i < N.length → j < k → CoD (updR i0 h (fun i => f (L.getD i d)) i j) (f (N.getD i d) j) := by
  subst he; subst hi
  intro i j h1 hj
  rw [List.length_set] at h1
  unfold updR
  split
  · rename_i e; subst e
    rw [List.getD_eq_getElem?_getD, List.getElem?_set_self h1]; exact hx j hj
  · rename_i e
    rw [List.getD_eq_getElem?_getD, List.getElem?_set_ne (Ne.symm e), ← List.getD_eq_getElem?_getD]; exact CoD.refl _
theorem co_setP {α : Type} {f : α → Nat → D} {d x : α} {L N : List α} {k n : Nat} {h : Nat → D} {i0 : Nat} (he : N = L.set n x) (hi : i0 = n) (hx : allP k fun j => chkD (h j) (f x j)) :
    ∀ i j, i < N.length → j < k → CoD (updR i0 h (fun i => f (L.getD i d)) i j) (f (N.getD i d) j) :=
  co_set i0 he hi fun j hj => chkD_ok (allP_ok hx j hj)
theorem co_setG {α : Type} {f : α → Nat → D} {d x : α} {L N : List α} {k n i0 : Nat} {h : Nat → D} {g : Nat → Nat → D} (hg : ∀ i j, i < L.length → j < k → CoD (g i j) (f (L.getD i d) j)) (he : N = L.set n x) (hi : i0 = n) (hx : allP k fun j => chkD (h j) (f x j)) :
    ∀ i j, i < N.length → j < k → CoD (updR i0 h g i j) (f (N.getD i d) j) := by
  subst he; subst hi
  intro i j h1 hj
  rw [List.length_set] at h1
  unfold updR
  split
  · rename_i e; subst e
    rw [List.getD_eq_getElem?_getD, List.getElem?_set_self h1]; exact chkD_ok (allP_ok hx j hj)
  · rename_i e
    rw [List.getD_eq_getElem?_getD, List.getElem?_set_ne (Ne.symm e), ← List.getD_eq_getElem?_getD]; exact hg i j h1 hj
theorem co_eq {α : Type} {f : α → Nat → D} {d : α} {L N : List α} {k : Nat} (he : N = L) :
    ∀ i j, i < N.length → j < k → CoD (f (L.getD i d) j) (f (N.getD i d) j) := by subst he; exact fun _ _ _ _ => CoD.refl _
theorem len_eq {α : Type} {L N : List α} (he : N = L) : L.length = N.length := by rw [he]
theorem len_snoc {α : Type} {x : α} {L N : List α} (he : N = L ++ [x]) : N.length = L.length + 1 := by subst he; simp
theorem len_snoc2 {α : Type} {x y : α} {L N : List α} (he : N = L ++ [x, y]) : N.length = L.length + 1 + 1 := by subst he; simp
theorem len_app {α : Type} {M L N : List α} (he : N = L ++ M) : N.length = L.length + M.length := by subst he; simp
theorem len_set {α : Type} {x : α} {n : Nat} {L N : List α} (he : N = L.set n x) : N.length = L.length := by subst he; simp

/-! ### plain helpers -/
theorem sb_T {p : Prop} [Decidable p] (h : p) : sb p = true := by unfold sb; exact decide_eq_true h
theorem sb_F {p : Prop} [Decidable p] (h : ¬ p) : sb p = false := by unfold sb; exact decide_eq_false h
theorem ext_getD {α : Type} {L M : List α} (d : α) (hl : L.length = M.length) (h : ∀ j, j < L.length → L.getD j d = M.getD j d) : L = M := by
  apply List.ext_getElem hl
  intro j h1 h2
  have := h j h1
  simpa [List.getD_eq_getElem?_getD, List.getElem?_eq_getElem h1, List.getElem?_eq_getElem h2] using this
theorem getD_mem {α : Type} {L : List α} (d : α) {i : Nat} (h : i < L.length) : L.getD i d ∈ L := by
  rw [List.getD_eq_getElem?_getD, List.getElem?_eq_getElem h]; exact List.getElem_mem h
theorem all_upto {α : Type} {L : List α} (d : α) {f : α → Bool} (h : ∀ j, j < L.length → f (L.getD j d) = true) : L.all f = true := by
  refine List.all_eq_true.2 fun x hx => ?_
  obtain ⟨j, hj, rfl⟩ := List.mem_iff_getElem.1 hx
  have := h j hj
  simpa [List.getD_eq_getElem?_getD, List.getElem?_eq_getElem hj] using this
theorem all_not {α : Type} {L : List α} (d : α) {f : α → Bool} {i : Nat} (h : i < L.length) (hf : f (L.getD i d) = false) : L.all f = false := by
  rw [List.all_eq_false]
  exact ⟨_, getD_mem d h, by rw [hf]; simp⟩
theorem upto_succ {p : Nat → Prop} {i : Nat} (h : ∀ j, j < i → p j) (k : p i) : ∀ j, j < i + 1 → p j := fun j hj =>
  (Nat.lt_or_ge j i).elim (h j) fun h' => by have : j = i := by omega
                                             subst this; exact k
end Go.Bw
