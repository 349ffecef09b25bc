/- An abstract machine for the program's code, and that it is sound: part Am4. -/
import Derived.Test.YtmlfcopllfdjfaaGreatAm3b
namespace Go.Proofs.YtmlfcopllfdjfaaGreat.Am
variable {P : Program} {Θ : Th} {G : Gm}

/-! ### Cells -/

theorem Loc.at_add (L : Loc) (off k : Nat) : (L.at off).add k = L.at (off + k) := by
  unfold Loc.at Addr.add
  split
  · subst_vars; rfl
  · simp [Nat.add_assoc]

theorem cell_at {w : World} {L : Loc} {cs : Array Value} {ty : TypeId} {fr : Nat × Nat} (h : w.heap[L.blk]? = some (.cells cs ty fr)) (off : Nat) : w.cell? (L.at off) = cs[L.base + off]? := by
  simp [World.cell?, Loc.at, h]

theorem cgets_get {n pd : Nat} {d : List AV} {t : Tr AV} : ∀ {k off : Nat} {l : List AV}, cgets n pd d t off k = some l → l.length = k ∧ ∀ i, i < k → ∃ v, l[i]? = some v ∧ cget n pd d t (off + i) = some v
  | 0, off, l, h => by simp only [cgets] at h; cases h; exact ⟨rfl, fun i hi => absurd hi (Nat.not_lt_zero _)⟩
  | k + 1, off, l, h => by
    simp only [cgets] at h
    split at h
    · rename_i v hv
      split at h
      · rename_i l' hl
        cases h
        obtain ⟨h1, h2⟩ := cgets_get hl
        refine ⟨by simp [h1], fun i hi => ?_⟩
        cases i with
        | zero => exact ⟨v, rfl, hv⟩
        | succ i =>
          obtain ⟨x, hx, hc⟩ := h2 i (by omega)
          exact ⟨x, by simpa using hx, by rw [show off + (i + 1) = off + 1 + i by omega]; exact hc⟩
      · cases h
    · cases h

theorem cgets_cells {L : Loc} {n pd : Nat} {tail fz : Bool} {d : List AV} {t : Tr AV} {cs : Array Value} {fr : Nat × Nat} (rc : RCells Θ G L n tail fz pd d t cs fr) {off k : Nat} {l : List AV} (h : cgets n pd d t off k = some l) :
    ∃ vs : List Value, RL Θ G l vs ∧ ∀ j v, vs[j]? = some v → cs[L.base + (off + j)]? = some v := by
  obtain ⟨h1, h2⟩ := cgets_get h
  have hex : ∀ i, i < k → ∃ c, cs[L.base + (off + i)]? = some c ∧ ∀ v, l[i]? = some v → RV Θ G v c := fun i hi => by
    obtain ⟨v, hv, hc⟩ := h2 i hi
    obtain ⟨c, hc1, hc2⟩ := rc.get _ _ hc
    exact ⟨c, hc1, fun v' hv' => by rw [hv] at hv'; cases hv'; exact hc2⟩
  refine ⟨(List.range k).map fun i => cs.getD (L.base + (off + i)) undef, ⟨by simp [h1], fun i x y hx hy => ?_⟩, fun j v hv => ?_⟩
  · have hi : i < k := by
      rcases Nat.lt_or_ge i k with h | h
      · exact h
      · rw [List.getElem?_eq_none (by omega)] at hx; cases hx
    obtain ⟨c, hc1, hc2⟩ := hex i hi
    simp [hi, hc1] at hy
    subst hy
    exact hc2 x hx
  · have hj : j < k := by
      rcases Nat.lt_or_ge j k with h | h
      · exact h
      · simp [List.getElem?_eq_none (l := List.range k) (i := j) (by simpa using h)] at hv
    obtain ⟨c, hc1, _⟩ := hex j hj
    simp [hj, hc1] at hv
    subst hv
    exact hc1

theorem hload_inv {h : AH} {id off k : Nat} {l : List AV} (hl : hload h id off k = some l) : ∃ n tail fz pd d t, h.o.get id = some (.cells n tail fz pd d t) ∧ cgets n pd d t off k = some l := by
  unfold hload at hl
  split at hl
  · rename_i n tail fz pd d t hg; exact ⟨n, tail, fz, pd, d, t, hg, hl⟩
  · cases hl

theorem RH.cells {h : AH} {w : World} (r : RH P Θ G h w) {id n pd : Nat} {tail fz : Bool} {d : List AV} {t : Tr AV} (hg : h.o.get id = some (.cells n tail fz pd d t)) :
    ∃ L cs ty fr, G id = some L ∧ w.heap[L.blk]? = some (.cells cs ty fr) ∧ RCells Θ G L n tail fz pd d t cs fr := by
  obtain ⟨L, hL, cs, ty, fr, hx, rc⟩ := r.obj id _ hg rfl
  exact ⟨L, cs, ty, fr, hL, hx, rc⟩

theorem RH.load {h : AH} {w : World} (r : RH P Θ G h w) {id off k : Nat} {l : List AV} (hl : hload h id off k = some l) {L : Loc} (hL : G id = some L) :
    ∃ vs : List Value, RL Θ G l vs ∧ vs.length = k ∧ (∀ j v, vs[j]? = some v → w.cell? (L.at (off + j)) = some v) ∧ (loadCells (L.at off) k).run P w = .ok vs.toArray w := by
  obtain ⟨n, tail, fz, pd, d, t, hg, hc⟩ := hload_inv hl
  obtain ⟨L', cs, ty, fr, hL', hx, rc⟩ := r.cells hg
  rw [hL] at hL'; cases hL'
  obtain ⟨vs, h1, h2⟩ := cgets_cells rc hc
  have hlen : vs.length = k := by rw [← h1.1]; exact (cgets_get hc).1
  have hcell : ∀ j v, vs[j]? = some v → w.cell? (L.at (off + j)) = some v := fun j v hv => by rw [cell_at hx]; exact h2 j v hv
  refine ⟨vs, h1, hlen, hcell, ?_⟩
  rw [← hlen]
  exact run_loadCells_list (P := P) w (L.at off) vs fun j v hv => by rw [Loc.at_add]; exact hcell j v hv

theorem RL.one {x : AV} {vs : List Value} (h : RL Θ G [x] vs) : ∃ v, vs = [v] ∧ RV Θ G x v := by
  obtain ⟨y, b, rfl, h1, h2⟩ := h.cons_inv
  rw [h2.nil_inv]
  exact ⟨y, rfl, h1⟩

/-! ### Writing cells -/

def cwrite (cs : Array Value) (k : Nat) : List Value → Array Value
  | [] => cs
  | v :: vs => cwrite (cs.setIfInBounds k v) (k + 1) vs

theorem cwrite_size : ∀ (vs : List Value) (cs : Array Value) (k : Nat), (cwrite cs k vs).size = cs.size
  | [], cs, k => rfl
  | v :: vs, cs, k => by simp [cwrite, cwrite_size vs]

theorem cwrite_get : ∀ (vs : List Value) (cs : Array Value) (k j : Nat), k + vs.length ≤ cs.size → (cwrite cs k vs)[j]? = if k ≤ j ∧ j < k + vs.length then vs[j - k]? else cs[j]?
  | [], cs, k, j, _ => by simp only [cwrite, List.length_nil]; rw [if_neg (by omega)]
  | v :: vs, cs, k, j, h => by
    simp only [List.length_cons] at h
    simp only [cwrite, List.length_cons]
    rw [cwrite_get vs _ _ _ (by simp; omega)]
    by_cases e : j = k
    · subst e
      rw [if_neg (by omega), if_pos (by omega)]
      simp [show j < cs.size by omega]
    · by_cases h1 : k + 1 ≤ j ∧ j < k + 1 + vs.length
      · rw [if_pos h1, if_pos (by omega), show j - k = (j - (k + 1)) + 1 by omega]; rfl
      · rw [if_neg h1, if_neg (by omega), Array.getElem?_setIfInBounds_ne (Ne.symm e)]

theorem wput_self {w : World} {b : Nat} {o : Obj} (h : w.heap[b]? = some o) : wput w b o = w := by
  have hb : b < w.heap.size := by
    rcases Nat.lt_or_ge b w.heap.size with h' | h'
    · exact h'
    · rw [Array.getElem?_eq_none h'] at h; cases h
  unfold wput
  have : w.heap.setIfInBounds b o = w.heap := by
    apply Array.ext
    · simp
    · intro i h1 h2
      by_cases e : b = i
      · subst e; rw [Array.getElem?_eq_getElem hb] at h; rw [Array.getElem_setIfInBounds_self]; exact (Option.some.inj h).symm
      · rw [Array.getElem_setIfInBounds_ne _ e]
  rw [this]

theorem wput_wput (w : World) (b : Nat) (x y : Obj) : wput (wput w b x) b y = wput w b y := by
  unfold wput
  congr 1
  apply Array.ext
  · simp
  · intro i h1 h2
    by_cases e : b = i
    · subst e; simp
    · simp

theorem setCell_wput {w : World} {L : Loc} {cs : Array Value} {ty : TypeId} {fr : Nat × Nat} (h : w.heap[L.blk]? = some (.cells cs ty fr)) (off : Nat) (v : Value) :
    w.setCell (L.at off) v = wput w L.blk (.cells (cs.setIfInBounds (L.base + off) v) ty fr) := by
  have hb : L.blk < w.heap.size := by
    rcases Nat.lt_or_ge L.blk w.heap.size with h' | h'
    · exact h'
    · rw [Array.getElem?_eq_none h'] at h; cases h
  unfold World.setCell wput
  congr 1
  apply Array.ext
  · simp
  · intro i h1 h2
    have h1' : i < w.heap.size := by simpa using h1
    rw [Array.getElem?_eq_getElem hb] at h
    have h := Option.some.inj h
    by_cases e : L.blk = i
    · subst e; simp [Loc.at, Array.getElem_modify, h]
    · rw [Array.getElem_setIfInBounds_ne _ e]
      · simp [Loc.at, Array.getElem_modify, e]
      · exact h1'

theorem run_storeCells_at : ∀ (vs : List Value) (w : World) (L : Loc) (off i : Nat) (cs : Array Value) (ty : TypeId) (fr : Nat × Nat), w.heap[L.blk]? = some (.cells cs ty fr) →
    L.base + (off + i) + vs.length ≤ cs.size → (∀ v ∈ vs, v.oneCell' = true) → (∀ j, off + i ≤ j → j < off + i + vs.length → ¬ (fr.1 ≤ L.base + j ∧ L.base + j < fr.2)) →
    (storeCells (L.at off) vs i).run P w = .ok () (wput w L.blk (.cells (cwrite cs (L.base + (off + i)) vs) ty fr))
  | [], w, L, off, i, cs, ty, fr, hx, _, _, _ => by
    simp only [storeCells, cwrite, Sem.run_pure]
    rw [wput_self hx]
  | v :: vs, w, L, off, i, cs, ty, fr, hx, hle, h1, hfr => by
    simp only [List.length_cons] at hle hfr
    have hb : L.blk < w.heap.size := by
      rcases Nat.lt_or_ge L.blk w.heap.size with h' | h'
      · exact h'
      · rw [Array.getElem?_eq_none h'] at hx; cases hx
    have hc : w.cell? ((L.at off).add i) = some (cs[L.base + (off + i)]'(by omega)) := by
      rw [Loc.at_add, cell_at hx]; simp
    have hf : w.frozen? ((L.at off).add i) = false := by
      rw [Loc.at_add]
      have := hfr (off + i) (by omega) (by omega)
      simp only [World.frozen?, Loc.at, hx]
      obtain ⟨lo, hi⟩ := fr
      exact Bool.eq_false_iff.2 fun hc => this ⟨of_decide_eq_true (Bool.and_eq_true_iff.1 hc).1, of_decide_eq_true (Bool.and_eq_true_iff.1 hc).2⟩
    simp only [storeCells, Sem.run_bind]
    rw [run_store P w _ v .plain (h1 v (by simp))]
    simp only [hc, hf, Bool.false_eq_true, if_false, Result.andThen_ok]
    rw [Loc.at_add, setCell_wput hx]
    rw [run_storeCells_at vs _ L off (i + 1) (cs.setIfInBounds (L.base + (off + i)) v) ty fr (wput_same w _ _ hb) (by simp; omega) (fun v hv => h1 v (by simp [hv]))
      (fun j ha hb => hfr j (by omega) (by omega))]
    rw [wput_wput]
    rfl

def csets (n : Nat) (t : Tr AV) (off : Nat) : List AV → Option (Tr AV)
  | [] => some t
  | v :: l => if off < n ∧ oneCell v = true then csets n (t.set off v) (off + 1) l else none

theorem csetsK_eq {β : Type} (bad : β) (n : Nat) : ∀ (l : List AV) (t : Tr AV) (off : Nat) (c : Tr AV → β), csetsK bad n t off l c = match csets n t off l with
    | some t => c t
    | none => bad
  | [], t, off, c => rfl
  | v :: l, t, off, c => by
    have hb : Nat.blt off n = decide (off < n) := by
      rw [Bool.eq_iff_iff]; simp
    simp only [csetsK, csets, hb, natK_eq, Tr.setK_eq]
    by_cases h1 : off < n
    · cases h2 : oneCell v
      · simp [h1]
      · simp only [h1, decide_true, true_and, if_true]; exact csetsK_eq bad n l _ _ c
    · simp [h1]

theorem csets_some {n : Nat} : ∀ {l : List AV} {t t' : Tr AV} {off : Nat}, csets n t off l = some t' →
    (l ≠ [] → off + l.length ≤ n) ∧ (∀ v ∈ l, oneCell v = true) ∧ ∀ j, t'.get j = if off ≤ j ∧ j < off + l.length then l[j - off]? else t.get j
  | [], t, t', off, h => by
    simp only [csets] at h; cases h
    exact ⟨fun h => absurd rfl h, fun v hv => by simp at hv, fun j => by rw [if_neg (by simp)]⟩
  | v :: l, t, t', off, h => by
    simp only [csets] at h
    split at h
    · rename_i hc
      obtain ⟨h1, h2, h3⟩ := csets_some h
      refine ⟨fun _ => ?_, fun x hx => ?_, fun j => ?_⟩
      · cases l with
        | nil => simp; omega
        | cons a l => have := h1 (by simp); simp only [List.length_cons] at *; omega
      · rcases List.mem_cons.1 hx with rfl | hx
        · exact hc.2
        · exact h2 x hx
      · rw [h3 j, Tr.get_set]
        simp only [List.length_cons]
        by_cases e : j = off
        · subst e; rw [if_neg (by omega), if_pos rfl, if_pos (by omega)]; simp
        · by_cases h' : off + 1 ≤ j ∧ j < off + 1 + l.length
          · rw [if_pos h', if_pos (by omega), show j - off = (j - (off + 1)) + 1 by omega]; rfl
          · rw [if_neg h', if_neg e, if_neg (by omega)]
    · cases h

theorem cget_eq (n pd : Nat) (d : List AV) (t : Tr AV) (off : Nat) : cget n pd d t off = if off < n then (match t.get off with | some v => some v | none => match d with | [] => none | d => agetI d (off % pd)) else none := by
  have hb : Nat.blt off n = decide (off < n) := by rw [Bool.eq_iff_iff]; simp
  unfold cget
  rw [hb]
  by_cases h : off < n
  · simp only [h, decide_true, if_true]; rfl
  · simp [h]

/-- Cells are written. -/
theorem RH.store (hΘ : Thin Θ) {h : AH} {w : World} (r : RH P Θ G h w) {α : Type} {id off : Nat} {l : List AV} {c : AH → Res α} {a : α} {h' : AH} (hs : hstore h id off l c = .ok a h')
    {L : Loc} (hL : G id = some L) {vs : List Value} (hv : RL Θ G l vs) :
    ∃ h1 w1, c h1 = .ok a h' ∧ h1.nx = h.nx ∧ (storeCells (L.at off) vs).run P w = .ok () w1 ∧ Next P Θ G h w G h1 w1 := by
  cases l with
  | nil =>
    rw [hv.nil_inv]
    exact ⟨h, w, hs, rfl, rfl, .refl r⟩
  | cons x l =>
    unfold hstore at hs
    simp only at hs
    split at hs
    · rename_i n tail pd d t hg
      rw [csetsK_eq] at hs
      split at hs
      · rename_i t' ht
        rw [Tr.setK_eq] at hs
        obtain ⟨L', cs, ty, fr, hL', hx, rc⟩ := r.cells hg
        rw [hL] at hL'; cases hL'
        obtain ⟨h1, h2, h3⟩ := csets_some ht
        have hlen : vs.length = (x :: l).length := hv.1.symm
        have hle := h1 (by simp)
        have hk := rc.known
        have hsz := rc.size
        have hone : ∀ v ∈ vs, v.oneCell' = true := fun v hm => by
          obtain ⟨i, hi, rfl⟩ := List.getElem_of_mem hm
          have hi' : i < (x :: l).length := by omega
          exact (hv.2 i (x :: l)[i] _ (List.getElem?_eq_getElem hi') (by simp)).one hΘ (h2 _ (List.getElem_mem hi'))
        have hrun := run_storeCells_at (P := P) vs w L off 0 cs ty fr hx (by omega) hone (fun j ha hb => rc.free rfl j (by omega))
        refine ⟨_, _, hs, rfl, hrun, Next.put r hg rfl hL (o' := .cells n tail false pd d t') ⟨_, ty, fr, rfl, ?_⟩⟩
        refine ⟨by rw [cwrite_size]; exact rc.size, rc.known, rc.exact, fun o v ho => ?_, rc.free⟩
        rw [cget_eq, h3 o] at ho
        rw [cwrite_get _ _ _ _ (by omega)]
        by_cases hin : off ≤ o ∧ o < off + (x :: l).length
        · rw [if_pos hin] at ho
          rw [if_pos (by omega), show L.base + o - (L.base + (off + 0)) = o - off by omega]
          have hlt : o - off < (x :: l).length := by omega
          split at ho
          · rw [List.getElem?_eq_getElem hlt] at ho
            cases ho
            obtain ⟨c, hc1, hc2⟩ := hv.get (List.getElem?_eq_getElem hlt)
            exact ⟨c, hc1, hc2⟩
          · cases ho
        · rw [if_neg hin] at ho
          rw [if_neg (by omega)]
          exact rc.get o v (by rw [cget_eq]; exact ho)
      · cases hs
    · cases hs

end Go.Proofs.YtmlfcopllfdjfaaGreat.Am
