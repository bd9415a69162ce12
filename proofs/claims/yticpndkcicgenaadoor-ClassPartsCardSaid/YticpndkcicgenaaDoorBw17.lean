/- Abstract walk over contents given by functions, part 17: from a law's contract to the given statement's form: what is read at first is frozen, and the heap of the start lives on. -/
import Derived.Test.YticpndkcicgenaaDoorBw16
import Derived.Below
import Derived.ProofKit
import Derived.OpenShut
import Derived.Carry
import Derived.LaidMore
import Derived.MakeChecks
import Derived.Stop.Joined
set_option linter.unusedVariables false
set_option linter.unusedSimpArgs false
namespace Go.Bw
open Go.RowKit Go.ChangeShapes Go.WideShapes

/-- A law that is about no memory: run in a world where its arguments' blocks and the laid cells lie. -/
theorem law_run {P : Program} {G : List (Addr × Value)} {f : FuncId} {args : List AV} {r : Value} (h : ACalls P G f args [] [] [] [] (RV r)) {W : World} {F : Nat → Prop} (hF : ∀ b, F b → b < W.heap.size)
    (hG : ∀ p ∈ G, F p.1.block ∧ W.cell? p.1 = some p.2) {vs : List Value} (hvs : repAVs (fun _ => none) F W args vs) : Calls P f vs.toArray W fun e W' => e = .returned r ∧ Below W.heap.size W W' := by
  have hsim : SimM G (fun _ => none) F (ofIn ([] ++ [])) W := ⟨(fun id o hid => by cases hid), (fun b hb => by obtain ⟨id, o, r, hid, _⟩ := hb; cases hid), (fun id1 id2 o1 o2 r1 r2 b hid => by cases hid), hF, hG⟩
  refine (h W (fun _ => none) F vs hsim (fun id r hr => by cases hr) hvs).mono ?_
  rintro e W' ⟨u, φ', F', rfl, _, hu, hs, _⟩
  refine ⟨by rw [rep_raw hu], hs.os, hs.tape, hs.output, hs.size, fun b hb => hs.keep b hb ?_⟩
  rintro ⟨id, o, r, hid, _⟩
  cases hid
/-! ### arguments, opened -/
def oldF (W : World) : Nat → Prop := fun b => b < W.heap.size
/-- What can be read as data of type t is one of the things that f lays out in k cells. -/
def Rd {H : Type} (enc : TypeId × Value → H) (P : Program) (W : World) (t : TypeId) {α : Type} (k : Nat) (f : α → Nat → D) : Prop :=
  ∀ (fuel : Nat) (cs : List Value) x, DataW.trod enc P W 0 (fun _ => true) true fuel t cs = some x → ∃ a, cs.length = k ∧ ∀ j u, cs[j]? = some u → repD (oldF W) W (f a j) u
theorem cell_spot {W : World} {a : Addr} {v : Value} (h : W.cell? a = some v) : a = ⟨a.block, a.off, none⟩ ∧ a.block < W.heap.size := by
  obtain ⟨b, off, sp⟩ := a
  unfold World.cell? at h
  split at h
  · rename_i c _ _ hg
    cases sp with
    | none => exact ⟨rfl, (Array.getElem?_eq_some_iff.1 hg).1⟩
    | some s => simp at h
  · cases h
theorem mapM_get {α β : Type} {f : α → Option β} : ∀ {L : List α} {M : List β}, L.mapM f = some M → L.length = M.length ∧ ∀ (i : Nat) (a : α), L[i]? = some a → f a = M[i]?
  | [], M, h => by simp at h; subst h; exact ⟨rfl, fun i a h => by simp at h⟩
  | a :: L, M, h => by
    simp only [List.mapM_cons] at h
    cases ha : f a with
    | none => simp [ha] at h
    | some b =>
      cases hL : L.mapM f with
      | none => simp [ha, hL] at h
      | some M' =>
        simp [ha, hL] at h
        subst h
        obtain ⟨h1, h2⟩ := mapM_get hL
        refine ⟨by simp [h1], fun i x hx => ?_⟩
        cases i with
        | zero => simp at hx ⊢; subst hx; exact ha
        | succ i => simp at hx ⊢; exact h2 i x hx
section
variable {H : Type} {enc : TypeId × Value → H} {P : Program} {W : World} {t e : TypeId} {α : Type} {f : α → Nat → D}
theorem Rd.slice {k : Nat} (ht : P.underlying t = some (.slice e)) (hk : P.cellsOf e = k) (hk0 : 0 < k) (d : α) (h : Rd enc P W e k f) : Rd enc P W t 1 (fun (L : List α) _ => lstL k f d L) := by
  intro fuel cs x hx
  rcases DataW.trod_slice ht hx with ⟨rfl, _⟩ | ⟨a, len, cap, elems, rest, n, rfl, rfl, rfl, _, hle, hcap, hlen, hel, _, _⟩
  · refine ⟨[], rfl, fun j u hu => ?_⟩
    cases j with
    | succ j => simp at hu
    | zero =>
      simp at hu
      subst hu
      simp only [repD]
      exact ⟨none, 0, rfl, Nat.le_refl _, Nat.zero_le _, .inl rfl⟩
  · rw [hk] at hel
    have hone : ∀ i, i < len → ∃ (a' : α) (cs' : List Value), W.cells? 0 (a.add (i * k)) k = some cs' ∧ cs'.length = k ∧ ∀ j u, cs'[j]? = some u → repD (oldF W) W (f a' j) u := by
      intro i hi
      have h1 := hel i hi
      rw [List.getElem?_eq_getElem (by omega), Option.bind_eq_some_iff] at h1
      obtain ⟨cs', h2, h3⟩ := h1
      obtain ⟨a', h4, h5⟩ := h n cs' _ h3
      exact ⟨a', cs', h2, h4, h5⟩
    have hL : ∀ m, m ≤ len → ∃ L : List α, L.length = m ∧ ∀ i, i < L.length → ∃ cs', W.cells? 0 (a.add (i * k)) k = some cs' ∧ cs'.length = k ∧ ∀ j u, cs'[j]? = some u → repD (oldF W) W (f (L.getD i d) j) u := by
      intro m
      induction m with
      | zero => exact fun _ => ⟨[], rfl, fun i hi => by simp at hi⟩
      | succ m ih =>
        intro hm
        obtain ⟨L, h1, h2⟩ := ih (by omega)
        obtain ⟨a', cs', h3, h4⟩ := hone m (by omega)
        refine ⟨L ++ [a'], by simp [h1], fun i hi => ?_⟩
        by_cases hlt : i < L.length
        · rw [getD_app_l hlt]; exact h2 i hlt
        · have : i = m := by simp at hi; omega
          subst this
          refine ⟨cs', h3, ?_⟩
          rw [getD_app_r (by omega), show i - L.length = 0 by omega]
          exact h4
    obtain ⟨L, hLl, hLe⟩ := hL len (Nat.le_refl _)
    refine ⟨L, rfl, fun j u hu => ?_⟩
    cases j with
    | succ j => simp at hu
    | zero =>
      simp at hu
      subst hu
      simp only [repD]
      refine ⟨some a, cap, by rw [hLl], by omega, hcap, ?_⟩
      by_cases hz : L.length = 0
      · exact .inl hz
      · right
        have hcell : ∀ i j, i < L.length → j < k → ∃ u, W.cell? ((a.add (i * k)).add j) = some u ∧ repD (oldF W) W (f (L.getD i d) j) u := by
          intro i j hi hj
          obtain ⟨cs', h1, h2, h3⟩ := hLe i hi
          unfold World.cells? at h1
          rw [if_pos (Nat.zero_le _)] at h1
          obtain ⟨hl, hg⟩ := mapM_get h1
          have hjl : j < cs'.length := by rw [h2]; exact hj
          have hg := hg j j (by simp [hj])
          rw [List.getElem?_eq_getElem hjl] at hg
          exact ⟨cs'[j], hg, h3 j _ (List.getElem?_eq_getElem hjl)⟩
        obtain ⟨u0, hu0, _⟩ := hcell 0 0 (by omega) hk0
        have hsp := cell_spot hu0
        have ha : a = ⟨a.block, a.off, none⟩ := by
          obtain ⟨b, off, sp⟩ := a
          have := congrArg Addr.spot hsp.1
          simpa [Addr.add] using this
        refine ⟨a.block, a.off, by rw [← ha], by have := hsp.2; simpa [Addr.add, oldF] using this, fun i j hi hj => ?_⟩
        obtain ⟨u, hu, hr⟩ := hcell i j hi hj
        rw [ha, addr_add, addr_add, Nat.add_assoc] at hu
        exact ⟨u, hu, hr⟩
theorem Rd.int {k : IntKind} (ht : P.underlying t = some (.int k)) : Rd enc P W t 1 (fun (a : {a : Int // ilo k ≤ a ∧ a ≤ ihi k}) _ => .raw (.int k a)) := by
  intro fuel cs x hx
  obtain ⟨n, rfl, _, hw⟩ := DataW.trod_int ht hx
  have hn : ilo k ≤ n ∧ n ≤ ihi k := by
    simp only [Lit.wf, Bool.and_eq_true, decide_eq_true_eq] at hw
    cases k <;> exact hw
  refine ⟨⟨n, hn⟩, rfl, fun j u hu => ?_⟩
  cases j with
  | succ j => simp at hu
  | zero => simp at hu; subst hu; simp only [repD]; exact ⟨trivial, hn⟩
theorem Rd.map {k : Nat} {β : Type} {f' : β → Nat → D} (g : α → β) (h : Rd enc P W t k f) (hg : ∀ a j, j < k → f a j = f' (g a) j) : Rd enc P W t k f' := by
  intro fuel cs x hx
  obtain ⟨a, h1, h2⟩ := h fuel cs x hx
  refine ⟨g a, h1, fun j u hu => ?_⟩
  have hj : j < k := by rw [← h1]; exact (List.getElem?_eq_some_iff.1 hu).1
  rw [← hg a j hj]; exact h2 j u hu
/-- An array's whole numbers. -/
def Ints (k : IntKind) : Type := {v : Nat → Int // ∀ j, ilo k ≤ v j ∧ v j ≤ ihi k}
theorem trod_ints {k : IntKind} {n : Nat} {w : World} {base : Nat} {spare : Nat → Bool} {held : Bool} {fuel : Nat} {cs : List Value} {x} (ht : P.underlying t = some (.array n e)) (he : P.underlying e = some (.int k)) (hc : P.cellsOf e = 1) (hct : P.cellsOf t = n) (hx : DataW.trod enc P w base spare held fuel t cs = some x) :
    cs.length = n ∧ ∃ ys : List Int, ys.length = n ∧ x.1 = .agg (ys.map fun a => .lit (.int k a)) ∧ ∀ (i : Nat) (a : Int), ys[i]? = some a → cs[i]? = some (Value.int k a) ∧ (Lit.int k a).wf = true := by
  obtain ⟨xs, m, _, rfl, hlen, hxs, hel⟩ := DataW.trod_array ht hx
  rw [hct] at hlen
  rw [hc] at hel
  have hone : ∀ i, i < n → ∃ a, cs[i]? = some (.int k a) ∧ xs[i]? = some (.lit (.int k a), []) ∧ (Lit.int k a).wf = true := by
    intro i hi
    have h1 := hel i hi
    rw [List.getElem?_eq_getElem (by omega)] at h1
    obtain ⟨a, h2, h3, h4⟩ := DataW.trod_int he h1
    refine ⟨a, ?_, ?_, h4⟩
    · have := congrArg (fun l => l[0]?) h2
      simpa using this
    · rw [List.getElem?_eq_getElem (by omega), h3]
  have hys : ∀ m, m ≤ n → ∃ ys : List Int, ys.length = m ∧ (xs.take m).map (·.1) = ys.map (fun a => .lit (.int k a)) ∧ ∀ (i : Nat) (a : Int), ys[i]? = some a → cs[i]? = some (Value.int k a) ∧ (Lit.int k a).wf = true := by
    intro m
    induction m with
    | zero => exact fun _ => ⟨[], rfl, rfl, fun i a h => by simp at h⟩
    | succ m ih =>
      intro hm
      obtain ⟨ys, h1, h2, h3⟩ := ih (by omega)
      obtain ⟨a, h4, h5, h6⟩ := hone m (by omega)
      refine ⟨ys ++ [a], by simp [h1], ?_, fun i b hb => ?_⟩
      · rw [List.take_add_one, h5, List.map_append, List.map_append, h2]; rfl
      · by_cases hi : i < ys.length
        · rw [List.getElem?_append_left hi] at hb; exact h3 i b hb
        · rw [List.getElem?_append_right (by omega)] at hb
          have hi0 : i = m := by
            have := (List.getElem?_eq_some_iff.1 hb).1
            simp at this; omega
          subst hi0
          rw [h1, Nat.sub_self] at hb
          simp at hb
          subst hb
          exact ⟨h4, h6⟩
  obtain ⟨ys, h1, h2, h3⟩ := hys n (Nat.le_refl _)
  refine ⟨hlen, ys, h1, ?_, h3⟩
  rw [List.take_of_length_le (by omega)] at h2
  rw [h2]
theorem wf_range {k : IntKind} {a : Int} (hw : (Lit.int k a).wf = true) : ilo k ≤ a ∧ a ≤ ihi k := by
  simp only [Lit.wf, Bool.and_eq_true, decide_eq_true_eq] at hw
  cases k <;> exact hw
theorem Rd.ints {k : IntKind} {n : Nat} (ht : P.underlying t = some (.array n e)) (he : P.underlying e = some (.int k)) (hc : P.cellsOf e = 1) (hct : P.cellsOf t = n) : Rd enc P W t n (fun (v : Ints k) j => .raw (.int k (v.1 j))) := by
  intro fuel cs x hx
  obtain ⟨hlen, ys, h1, _, h3⟩ := trod_ints ht he hc hct hx
  have h0 : ilo k ≤ 0 ∧ (0 : Int) ≤ ihi k := by cases k <;> decide
  refine ⟨⟨fun j => ys.getD j 0, fun j => ?_⟩, hlen, fun j u hu => ?_⟩
  · show ilo k ≤ ys.getD j 0 ∧ ys.getD j 0 ≤ ihi k
    rw [List.getD_eq_getElem?_getD]
    cases hj : ys[j]? with
    | none => exact h0
    | some a => exact wf_range (h3 j a hj).2
  · have hj : j < ys.length := by rw [h1, ← hlen]; exact (List.getElem?_eq_some_iff.1 hu).1
    obtain ⟨h4, h5⟩ := h3 j ys[j] (List.getElem?_eq_getElem hj)
    rw [hu] at h4
    cases h4
    simp only [repD, List.getD_eq_getElem?_getD, List.getElem?_eq_getElem hj, Option.getD_some]
    exact ⟨trivial, wf_range h5⟩
/-- Behind the call the arguments read as before. -/
theorem trodAll_below (hl : laidOutB P = true) {W' : World} (hb : Below W.heap.size W W') : ∀ {ts : List TypeId} {vs : List Value} {ds : List (DataW H)} {ps : List MemPlace}, (∀ t ∈ ts, P.readableRec t = true ∧ t < P.types.size) → (∀ x ∈ ps, x.block < W.heap.size) → DataW.TrodAll enc P W 0 (fun _ => true) true ts vs ds ps →
    DataW.TrodAll enc P W' 0 (fun b => decide (b < W.heap.size)) true ts vs ds ps
  | [], [], [], ps, _, _, h => h
  | t :: ts, v :: vs, d :: ds, ps, ht, hlt, h => by
    obtain ⟨p, q, h1, h2, rfl⟩ := h
    exact ⟨p, q, Below.trod hl (ht t (by simp)).1 (ht t (by simp)).2 h1 hb (fun x hx => hlt x (by simp [hx])), trodAll_below hl hb (fun u hu => ht u (by simp [hu])) (fun x hx => hlt x (by simp [hx])) h2, rfl⟩
  | [], _ :: _, _, _, _, _, h => by simp [DataW.TrodAll] at h
  | [], [], _ :: _, _, _, _, h => by simp [DataW.TrodAll] at h
  | _ :: _, [], _, _, _, _, h => by simp [DataW.TrodAll] at h
  | _ :: _, _ :: _, [], _, _, _, h => by simp [DataW.TrodAll] at h
/-- A law that said true and left all that was there alone. -/
theorem post_law {s : ChangeSpec} {fn : Func} {apart : Bool} {W' : World} {args : Array Value} {ds gs : List (DataW H)} {before : List MemPlace} {tb : TypeId} (hW : DataW.Whole enc P fn.params.toList s.vars apart W args.toList ds gs before) (hv : s.vars = []) (hres : fn.resultTypes = #[tb]) (hb : P.underlying tb = some .bool)
    (hfn : s.fn H ds = { results := [.lit (.bool true)], args := ds }) (hl : laidOutB P = true) (hr : (fn.params.toList.all fun t => P.readableRec t && decide (t < P.types.size)) = true) (hB : Below W.heap.size W W') : s.post enc P fn apart true false false W args (.bool true) W' := by
  have hlt := hW.lt
  have hW2 := hW
  obtain ⟨p, q, hA, hV, rfl, _, _⟩ := hW2
  rw [hv] at hV
  obtain ⟨rfl, rfl⟩ := trodVars_none hV
  have hfn : s.fn H (ds ++ []) = { results := [.lit (.bool true)], args := ds } := by rw [List.append_nil]; exact hfn
  refine ⟨ds, [], p ++ [], [], p, [], hW, ?_, ?_, ?_, ?_, fun h => by cases h⟩
  · rw [hfn, hres]; exact trodAll_mk1 (shut_bool hb true)
  · rw [hfn]
    exact trodAll_below hl hB (fun t ht => by simpa using List.all_eq_true.1 hr t ht) (fun x hx => hlt x (by simp [hx])) hA
  · rw [hfn, hv]; rfl
  · exact hB.frame _
theorem slice_cells {w : World} {r : Reach} {b0 : Nat} {v : Value} (ht : P.underlying t = some (.slice e)) (h : Value.okWide P w r b0 t v) : v.cells = #[v] := by
  simp only [Value.okWide, ht, Cell.okWide] at h
  cases v <;> first | rfl | simp_all [Cell.ok]
/-- One argument read. -/
theorem Rd.one (h : Rd enc P W t 1 f) {v : Value} {d : DataW H} {ps : List MemPlace} (hv : DataW.Trod enc P W 0 (fun _ => true) true t v d ps) (hc : v.cells = #[v]) : ∃ a, repD (oldF W) W (f a 0) v := by
  obtain ⟨fuel, hx⟩ := hv
  obtain ⟨a, _, h2⟩ := h _ _ _ hx
  exact ⟨a, h2 0 v (by rw [hc]; rfl)⟩
end
end Go.Bw
