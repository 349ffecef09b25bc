/- An abstract machine for the program's code, and that it is sound: part Am35. -/
import Derived.Test.YtmlfcopllfdjfaaGreatAm34
namespace Go.Proofs.YtmlfcopllfdjfaaGreat.Am
open Go.RowKit Go.ChangeShapes Go.WideShapes

/-! ### What a call is given -/

/-- Fields side by side, from a place to another. -/
def tileGo (P : Program) : List Field → Nat → Nat → Bool
  | [], off, n => Nat.beq off n
  | f :: fs, off, n => Nat.beq f.offset off && tileGo P fs (off + P.cellsOf f.type) n

/-- A type of numbers, texts, bools, slices, structs of such. -/
def plainT (P : Program) : Nat → TypeId → Bool
  | 0, _ => false
  | n + 1, t => match P.underlying t with
    | some .bool => Nat.beq (P.cellsOf t) 1
    | some (.int _) => Nat.beq (P.cellsOf t) 1
    | some .string => Nat.beq (P.cellsOf t) 1
    | some (.slice e) => Nat.beq (P.cellsOf t) 1 && (Nat.ble 1 (P.cellsOf e) && plainT P n e)
    | some (.struct fs) => tileGo P fs.toList 0 (P.cellsOf t) && fs.toList.all fun f => plainT P n f.type
    | _ => false

/-- What the cells of a value of a type may be. -/
def Sh (P : Program) (h : AH) : Nat → TypeId → List AV → Prop
  | 0, _, _ => False
  | n + 1, t, avs => match P.underlying t with
    | some .bool => ∃ b, avs = [.b b]
    | some (.int k) => ∃ x, avs = [.i k x] ∧ k.min ≤ x ∧ x ≤ k.max
    | some .string => ∃ l, avs = [.s l] ∧ (∀ b ∈ l, b < 256) ∧ l.length ≤ maxLen
    | some (.slice e) => avs = [.nsl] ∨ avs = [.zs] ∨ ∃ id len Ls, avs = [.sl id 0 len (.ex (List.length Ls))] ∧ len ≤ List.length Ls ∧ List.length Ls ≤ maxLen ∧
        h.o.get id = some (.cells (List.flatten Ls).length true true (List.flatten Ls).length (List.flatten Ls) .e) ∧ ∀ L ∈ Ls, Sh P h n e L ∧ L.length = P.cellsOf e
    | some (.struct fs) => ∃ Ls, avs = List.flatten Ls ∧ List.length Ls = fs.size ∧ ∀ (i : Nat) (f : Field) (L : List AV), fs[i]? = some f → Ls[i]? = some L → Sh P h n f.type L ∧ L.length = P.cellsOf f.type
    | _ => False

def Keep (h h' : AH) : Prop := ∀ i o, h.o.get i = some o → h'.o.get i = some o

theorem Sh.keep {P : Program} {h h' : AH} (k : Keep h h') : ∀ {n : Nat} {t : TypeId} {avs : List AV}, Sh P h n t avs → Sh P h' n t avs
  | 0, _, _, s => s
  | n + 1, t, avs, s => by
    simp only [Sh] at s ⊢
    split
    · rename_i hu; rw [hu] at s; exact s
    · rename_i hu; rw [hu] at s; exact s
    · rename_i hu; rw [hu] at s; exact s
    · rename_i hu; rw [hu] at s
      rcases s with s | s | ⟨id, len, Ls, h1, h2, h3, h4, h5⟩
      · exact .inl s
      · exact .inr (.inl s)
      · exact .inr (.inr ⟨id, len, Ls, h1, h2, h3, k _ _ h4, fun L hL => ⟨Sh.keep k (h5 L hL).1, (h5 L hL).2⟩⟩)
    · rename_i hu; rw [hu] at s
      obtain ⟨Ls, h1, h2, h3⟩ := s
      exact ⟨Ls, h1, h2, fun i f L hf hL => ⟨Sh.keep k (h3 i f L hf hL).1, (h3 i f L hf hL).2⟩⟩
    · rename_i h1 h2 h3 h4 h5
      split at s
      · rename_i hu; exact absurd hu h1
      · rename_i kk hu; exact absurd hu (h2 kk)
      · rename_i hu; exact absurd hu h3
      · rename_i e hu; exact absurd hu (h4 e)
      · rename_i fs hu; exact absurd hu (h5 fs)
      · exact s

/-- Nothing in it may be written. -/
def Cold (h : AH) : Prop := ∀ i o, h.o.get i = some o → o.wr = false

/-- What is known behind an opening. -/
structure Opened (P : Program) (Θ : Th) (G : Gm) (h : AH) (G' : Gm) (h' : AH) : Prop where
  rh : RH P Θ G' h' Θ.W
  cold : Cold h'
  ext : Ext G G'
  keep : Keep h h'

section
variable {P : Program} {Θ : Th}

theorem Opened.refl {G : Gm} {h : AH} (r : RH P Θ G h Θ.W) (c : Cold h) : Opened P Θ G h G h := ⟨r, c, .refl G, fun _ _ e => e⟩
theorem Opened.trans {G G' G'' : Gm} {h h' h'' : AH} (a : Opened P Θ G h G' h') (b : Opened P Θ G' h' G'' h'') : Opened P Θ G h G'' h'' :=
  ⟨b.rh, b.cold, a.ext.trans b.ext, fun i o e => b.keep i o (a.keep i o e)⟩

/-- Many, one behind the other. -/
theorem open_list {α : Type} {seg : α → List Value} {R : AH → α → List AV → Prop} (mono : ∀ h h' x L, Keep h h' → R h x L → R h' x L) : ∀ {l : List α},
    (∀ x ∈ l, ∀ G h, RH P Θ G h Θ.W → Cold h → ∃ G' h' L, Opened P Θ G h G' h' ∧ RL Θ G' L (seg x) ∧ R h' x L) →
    ∀ G h, RH P Θ G h Θ.W → Cold h → ∃ G' h' Ls, Opened P Θ G h G' h' ∧ List.length Ls = l.length ∧ RL Θ G' (List.flatten Ls) (l.flatMap seg) ∧ ∀ (i : Nat) (x : α) (L : List AV), l[i]? = some x → Ls[i]? = some L → R h' x L
  | [], _, G, h, r, c => ⟨G, h, [], .refl r c, rfl, RL.nil, fun i x L hx => by simp at hx⟩
  | x :: l, st, G, h, r, c => by
    obtain ⟨G1, h1, L, o1, r1, s1⟩ := st x (.head _) G h r c
    obtain ⟨G2, h2, Ls, o2, hl, r2, s2⟩ := open_list mono (l := l) (fun y hy => st y (.tail _ hy)) G1 h1 o1.rh o1.cold
    refine ⟨G2, h2, L :: Ls, o1.trans o2, by simp [hl], ?_, fun i y M hy hM => ?_⟩
    · simp only [List.flatten_cons, List.flatMap_cons]
      exact (r1.ext o2.ext).append r2
    · cases i with
      | zero => simp at hy hM; subst hy; subst hM; exact mono _ _ _ _ o2.keep s1
      | succ i => exact s2 i y M (by simpa using hy) (by simpa using hM)

theorem tile_cover (P : Program) (cs : List Value) : ∀ {fs : List Field} {off n : Nat}, tileGo P fs off n = true → cs.length = n → cs.drop off = fs.flatMap fun f => (cs.drop f.offset).take (P.cellsOf f.type)
  | [], off, n, h, hl => by
    have : off = n := Nat.eq_of_beq_eq_true h
    rw [List.flatMap_nil, List.drop_eq_nil_of_le (by omega)]
  | f :: fs, off, n, h, hl => by
    simp only [tileGo, Bool.and_eq_true] at h
    have h1 : f.offset = off := Nat.eq_of_beq_eq_true h.1
    rw [List.flatMap_cons, h1, ← tile_cover P cs h.2 hl, ← List.drop_drop, List.take_append_drop]

theorem cget_row {n : Nat} {D : List AV} {off : Nat} {v : AV} (hn : D.length = n) (h : cget n n D .e off = some v) : D[off]? = some v := by
  unfold cget at h
  split at h
  · rename_i hlt
    have hlt : off < n := by simpa using hlt
    have : (Tr.e : Tr AV).get off = none := by cases off <;> rfl
    rw [this] at h
    simp only at h
    split at h
    · cases h
    · rw [Nat.mod_eq_of_lt hlt] at h
      have hg : ∀ (l : List AV) (i : Nat), agetI l i = l[i]? := by
        intro l
        induction l with
        | nil => intro i; simp [agetI]
        | cons a l ih => intro i; cases i with
          | zero => simp [agetI]
          | succ i => simp [agetI, ih]
      rw [← hg]; exact h
  · cases h

/-- A row that is only read. -/
theorem open_row {G : Gm} {h : AH} (r : RH P Θ G h Θ.W) (c : Cold h) {b off : Nat} {cs : Array Value} {ty : TypeId} {fr : Nat × Nat} (hb : Θ.W.heap[b]? = some (.cells cs ty fr)) {D : List AV} {vs : List Value} (hD : RL Θ G D vs)
    (hv : ∀ j v, vs[j]? = some v → cs[off + j]? = some v) (hoff : off ≤ cs.size) :
    Opened P Θ G h (G.put h.nx ⟨b, off, cs.size - off⟩) ⟨h.nx + 1, h.o.set h.nx (.cells D.length true true D.length D .e)⟩ := by
  have hext := Ext.put r ⟨b, off, cs.size - off⟩
  have hput : ∀ i, i ≠ h.nx → (G.put h.nx ⟨b, off, cs.size - off⟩) i = G i := fun i e => if_neg e
  have hlen : D.length ≤ cs.size - off := by
    rcases Nat.eq_zero_or_pos D.length with h0 | hp
    · omega
    · have hl : vs.length = D.length := hD.1.symm
      obtain ⟨v, hv1⟩ : ∃ v, vs[D.length - 1]? = some v := ⟨vs[D.length - 1]'(by omega), by simp [show D.length - 1 < vs.length by omega]⟩
      have := hv _ _ hv1
      have hlt : off + (D.length - 1) < cs.size := by
        rcases Nat.lt_or_ge (off + (D.length - 1)) cs.size with h | h
        · exact h
        · rw [Array.getElem?_eq_none h] at this; cases this
      omega
  have hcold : Cold ⟨h.nx + 1, h.o.set h.nx (.cells D.length true true D.length D .e)⟩ := fun i o e => by
    simp only [Tr.get_set] at e
    by_cases hi : i = h.nx
    · rw [if_pos hi] at e; cases e; rfl
    · rw [if_neg hi] at e; exact c i o e
  refine ⟨⟨fun i o ho hl => ?_, fun i j o o' L L' ho ho' hl hl' hw => ?_, fun i L hL => ?_, fun i hi => ?_, r.fix, fun x ⟨i, o, L, ho, hw, _⟩ => ?_⟩, hcold, hext, fun i o e => ?_⟩
  · simp only [Tr.get_set] at ho
    by_cases hi : i = h.nx
    · rw [if_pos hi] at ho; cases ho; subst hi
      refine ⟨_, if_pos rfl, cs, ty, fr, hb, ⟨(show off + (cs.size - off) = cs.size by omega), hlen, (fun e => by cases e), fun o v hg => ?_, (fun e => by cases e)⟩⟩
      obtain ⟨cv, h1, h2⟩ := hD.get (cget_row rfl hg)
      exact ⟨cv, hv _ _ h1, h2.ext hext⟩
    · rw [if_neg hi] at ho
      obtain ⟨L, h1, h2⟩ := r.obj i o ho hl
      exact ⟨L, hext _ _ h1, h2.ext hext⟩
  · rcases hw with hw | hw
    · have := hcold i o ho; rw [this] at hw; cases hw
    · have := hcold j o' ho'; rw [this] at hw; cases hw
  · show i < h.nx + 1
    by_cases hi : i = h.nx
    · omega
    · have := r.bound i L ((hput i hi).symm.trans hL); omega
  · have hi' : h.nx + 1 ≤ i := hi
    show (h.o.set h.nx _).get i = none
    rw [Tr.get_set, if_neg (by omega)]
    exact r.fresh i (by omega)
  · have := hcold i o ho; rw [this] at hw; cases hw
  · show (h.o.set h.nx _).get i = some o
    rw [Tr.get_set, if_neg (fun hi => by rw [hi, r.fresh _ (Nat.le_refl _)] at e; cases e)]
    exact e

end

section
variable {H : Type} {enc : TypeId × Value → H} {P : Program} {Θ : Th}

theorem open_cells : ∀ (n fuel : Nat) (t : TypeId) (cs : List Value) (d : DataW H) (ps : List MemPlace), DataW.trod enc P Θ.W 0 (fun _ => true) true fuel t cs = some (d, ps) → plainT P n t = true →
    ∀ G h, RH P Θ G h Θ.W → Cold h → ∃ G' h' avs, Opened P Θ G h G' h' ∧ RL Θ G' avs cs ∧ (Sh P h' n t avs ∧ avs.length = P.cellsOf t)
  | 0, _, _, _, _, _, _, hp, _, _, _, _ => by cases hp
  | _ + 1, 0, _, _, _, _, ht, _, _, _, _, _ => by simp [DataW.trod] at ht
  | n + 1, fuel + 1, t, cs, d, ps, ht, hp, G, h, r, c => by
    simp only [plainT] at hp
    unfold DataW.trod at ht
    split at hp
    · rename_i hu
      rw [hu] at ht
      split at ht <;> rename_i hu2 <;> try (cases hu2; done)
      · rename_i b
        refine ⟨G, h, [.b b], .refl r c, RL.cons (.b b) RL.nil, ?_, (Nat.eq_of_beq_eq_true hp).symm⟩
        simp only [Sh, hu]; exact ⟨b, rfl⟩
      · cases ht
    · rename_i k hu
      rw [hu] at ht
      split at ht <;> rename_i hu2 <;> try (cases hu2; done)
      · rename_i k1 k' m
        cases hu2
        split at ht
        · rename_i hw
          obtain ⟨rfl, hw⟩ := hw
          refine ⟨G, h, [.i k' m], .refl r c, RL.cons (.i k' m) RL.nil, ?_, (Nat.eq_of_beq_eq_true hp).symm⟩
          simp only [Lit.wf, Bool.and_eq_true, decide_eq_true_eq] at hw
          simp only [Sh, hu]; exact ⟨m, rfl, hw.1, hw.2⟩
        · cases ht
      · cases ht
    · rename_i hu
      rw [hu] at ht
      split at ht <;> rename_i hu2 <;> try (cases hu2; done)
      · rename_i s
        split at ht
        · rename_i hw
          refine ⟨G, h, [.s (s.data.toList.map UInt8.toNat)], .refl r c, RL.cons (.s s) RL.nil, ?_, (Nat.eq_of_beq_eq_true hp).symm⟩
          simp only [Sh, hu]
          refine ⟨_, rfl, fun b hb => ?_, by simpa using hw⟩
          obtain ⟨u, _, rfl⟩ := List.mem_map.1 hb
          exact u.toNat_lt
        · cases ht
      · cases ht
    · rename_i e hu
      simp only [Bool.and_eq_true] at hp
      obtain ⟨hp1, hp2, hp3⟩ := hp
      have hp1 : P.cellsOf t = 1 := Nat.eq_of_beq_eq_true hp1
      have hk : 1 ≤ P.cellsOf e := by simpa using hp2
      rw [hu] at ht
      split at ht <;> rename_i hu2 <;> try (cases hu2; done)
      · refine ⟨G, h, [.nsl], .refl r c, RL.cons .nsl RL.nil, ?_, hp1.symm⟩
        unfold Sh; rw [hu]; exact .inl rfl
      · rename_i e' a len cap
        cases hu2
        simp only at ht
        split at ht
        · rename_i hbl
          obtain ⟨_, hlc, hcm⟩ := hbl
          simp only [if_true] at ht
          obtain ⟨elems, he1, ht⟩ := Option.bind_eq_some_iff.1 ht
          obtain ⟨rest, he2, _⟩ := Option.map_eq_some_iff.1 ht
          -- each element, spare ones too
          have hall : ∀ i, i < cap → ∃ l x, Θ.W.cells? 0 (a.add (i * P.cellsOf e)) (P.cellsOf e) = some l ∧ DataW.trod enc P Θ.W 0 (fun _ => true) true fuel e l = some x := by
            intro i hi
            rcases Nat.lt_or_ge i len with hl | hl
            · have hlen := mapM_some_length he1
              simp only [List.length_range] at hlen
              have h1 := mapM_some_get he1 i i (by simp [hl])
              rw [List.getElem?_eq_getElem (by omega)] at h1
              obtain ⟨l, h2, h3⟩ := Option.bind_eq_some_iff.1 h1
              exact ⟨l, _, h2, h3⟩
            · have hlen := mapM_some_length he2
              simp only [List.length_range] at hlen
              have h1 := mapM_some_get he2 (i - len) (i - len) (by rw [List.getElem?_range (by omega)])
              rw [List.getElem?_eq_getElem (by omega)] at h1
              obtain ⟨l, h2, h3⟩ := Option.bind_eq_some_iff.1 h1
              rw [show len + (i - len) = i by omega] at h2
              exact ⟨l, _, h2, h3⟩
          rcases Nat.eq_zero_or_pos cap with h0 | hpos
          · have : len = 0 := by omega
            subst this
            refine ⟨G, h, [.zs], .refl r c, RL.cons (.zs a cap) RL.nil, ?_, hp1.symm⟩
            unfold Sh; rw [hu]; exact .inr (.inl rfl)
          · -- the block
            obtain ⟨l0, x0, hc0, _⟩ := hall 0 hpos
            obtain ⟨_, hl0, hcell0⟩ := World.cells?_some hc0
            have hz : a.add (0 * P.cellsOf e) = a := by simp [Addr.add]
            have hz2 : a.add 0 = a := by simp [Addr.add]
            have h00 := hcell0 0 (by omega)
            rw [hz, hz2, List.getElem?_eq_getElem (by omega)] at h00
            obtain ⟨cs0, ty, fr, hblk, hspot⟩ : ∃ cs0 ty fr, Θ.W.heap[a.block]? = some (.cells cs0 ty fr) ∧ a.spot = none := by
              unfold World.cell? at h00
              split at h00
              · rename_i c0 t0 f0 hb
                split at h00
                · cases h00
                · rename_i hs; exact ⟨c0, t0, f0, hb, by simpa using hs⟩
              · cases h00
            have hcell : ∀ m, Θ.W.cell? (a.add m) = cs0[a.off + m]? := fun m => by
              unfold World.cell? Addr.add
              by_cases hm : m = 0
              · rw [if_pos hm, hblk, hspot, hm]; rfl
              · rw [if_neg hm]; simp only [hblk]; rfl
            have hadd : ∀ m j, (a.add m).add j = a.add (m + j) := fun m j => by
              unfold Addr.add
              by_cases hm : m = 0 <;> by_cases hj : j = 0
              · simp [hm, hj]
              · simp [hm, hj]
              · simp [hm, hj]
              · simp [hm, hj, Nat.add_assoc]
            obtain ⟨G1, h1, Ls, o1, hLl, hrl, hsh⟩ := open_list (Θ := Θ) (P := P) (seg := fun i => (Θ.W.cells? 0 (a.add (i * P.cellsOf e)) (P.cellsOf e)).getD [])
              (R := fun h _ L => Sh P h n e L ∧ L.length = P.cellsOf e) (fun _ _ _ _ k s => ⟨s.1.keep k, s.2⟩) (l := List.range cap) (fun i hi G h r c => by
                obtain ⟨l, x, hc, htr⟩ := hall i (by simpa using hi)
                obtain ⟨d', ps'⟩ := x
                obtain ⟨G', h', L, o, hr, hs⟩ := open_cells n fuel e l d' ps' htr hp3 G h r c
                exact ⟨G', h', L, o, by simp only [hc, Option.getD_some]; exact hr, hs⟩) G h r c
            have hidx : ∀ m, m ≤ cap → ((List.range m).flatMap fun i => (Θ.W.cells? 0 (a.add (i * P.cellsOf e)) (P.cellsOf e)).getD []).length = m * P.cellsOf e ∧
                ∀ j v, ((List.range m).flatMap fun i => (Θ.W.cells? 0 (a.add (i * P.cellsOf e)) (P.cellsOf e)).getD [])[j]? = some v → cs0[a.off + j]? = some v := by
              intro m
              induction m with
              | zero => intro _; exact ⟨by simp, fun j v hv => by simp at hv⟩
              | succ m ih =>
                intro hm
                obtain ⟨ih1, ih2⟩ := ih (by omega)
                obtain ⟨l, x, hc, _⟩ := hall m (by omega)
                obtain ⟨_, hll, hcl⟩ := World.cells?_some hc
                rw [List.range_succ, List.flatMap_append, List.flatMap_singleton, hc, Option.getD_some]
                refine ⟨by rw [List.length_append, ih1, hll, Nat.succ_mul], fun j v hv => ?_⟩
                rw [List.getElem?_append] at hv
                split at hv
                · exact ih2 j v hv
                · rename_i hge
                  rw [ih1] at hv hge
                  have hjl : j - m * P.cellsOf e < P.cellsOf e := by
                    rcases Nat.lt_or_ge (j - m * P.cellsOf e) l.length with h | h
                    · omega
                    · rw [List.getElem?_eq_none h] at hv; cases hv
                  have h5 := hcl _ hjl
                  rw [hadd, hcell, hv] at h5
                  rw [← h5, show m * P.cellsOf e + (j - m * P.cellsOf e) = j by omega]
            have hoff : a.off ≤ cs0.size := by
              have := hcell 0
              rw [hz2] at this
              rw [this] at h00
              rcases Nat.lt_or_ge (a.off + 0) cs0.size with h | h
              · omega
              · rw [Array.getElem?_eq_none h] at h00; cases h00
            have o2 := open_row (D := Ls.flatten) o1.rh o1.cold hblk hrl (hidx cap (Nat.le_refl _)).2 hoff
            have hLlen : Ls.length = cap := by simpa using hLl
            have hat : (⟨a.block, a.off, cs0.size - a.off⟩ : Loc).at 0 = a := by
              cases a with | mk b o s => simp only at hspot; subst hspot; rfl
            refine ⟨_, _, [.sl h1.nx 0 len (.ex Ls.length)], o1.trans o2, ?_, ?_, hp1.symm⟩
            · rw [hLlen]
              have hv : RV Θ (G1.put h1.nx ⟨a.block, a.off, cs0.size - a.off⟩) (.sl h1.nx 0 len (.ex cap)) (.slice (some ((⟨a.block, a.off, cs0.size - a.off⟩ : Loc).at 0)) len cap) := .sle 0 len cap (if_pos rfl)
              rw [hat] at hv
              exact RL.cons hv RL.nil
            · simp only [Sh, hu]
              refine .inr (.inr ⟨h1.nx, len, Ls, rfl, by omega, by omega, ?_, fun L hL => ?_⟩)
              · show (h1.o.set h1.nx _).get h1.nx = _
                rw [Tr.get_set, if_pos rfl]
              · obtain ⟨i, hi⟩ := List.mem_iff_getElem?.1 hL
                have hil : i < cap := by
                  rcases Nat.lt_or_ge i cap with h | h
                  · exact h
                  · rw [List.getElem?_eq_none (by omega)] at hi; cases hi
                have := hsh i i L (by simp [hil]) hi
                exact ⟨this.1.keep o2.keep, this.2⟩
        · cases ht
      · cases ht
    · rename_i fs hu
      simp only [Bool.and_eq_true, List.all_eq_true] at hp
      obtain ⟨hp1, hp2⟩ := hp
      rw [hu] at ht
      split at ht <;> rename_i hu2 <;> try (cases hu2; done)
      · rename_i cs _ _ fs'
        cases hu2
        split at ht
        · rename_i hlen
          obtain ⟨xs, hxs, _⟩ := Option.map_eq_some_iff.1 ht
          have hall : ∀ f ∈ fs.toList, ∃ x, DataW.trod enc P Θ.W 0 (fun _ => true) true fuel f.type ((cs.drop f.offset).take (P.cellsOf f.type)) = some x := by
            intro f hf
            obtain ⟨i, hi⟩ := List.mem_iff_getElem?.1 hf
            have h1 := mapM_some_get hxs i f hi
            have hl := mapM_some_length hxs
            have hil : i < fs.toList.length := by
              rcases Nat.lt_or_ge i fs.toList.length with h | h
              · exact h
              · rw [List.getElem?_eq_none h] at hi; cases hi
            rw [List.getElem?_eq_getElem (by omega)] at h1
            exact ⟨_, h1⟩
          obtain ⟨G1, h1, Ls, o1, hLl, hrl, hsh⟩ := open_list (Θ := Θ) (P := P) (seg := fun f : Field => (cs.drop f.offset).take (P.cellsOf f.type))
            (R := fun h f L => Sh P h n f.type L ∧ L.length = P.cellsOf f.type) (fun _ _ _ _ k s => ⟨s.1.keep k, s.2⟩) (l := fs.toList) (fun f hf G h r c => by
              obtain ⟨⟨d', ps'⟩, htr⟩ := hall f hf
              exact open_cells n fuel f.type _ d' ps' htr (hp2 f hf) G h r c) G h r c
          have hcov := tile_cover P cs hp1 hlen
          rw [List.drop_zero] at hcov
          rw [← hcov] at hrl
          refine ⟨G1, h1, Ls.flatten, o1, hrl, ?_, hrl.1.trans hlen⟩
          simp only [Sh, hu]
          exact ⟨Ls, rfl, by simpa using hLl, fun i f L hf hL => hsh i f L (by simpa using hf) hL⟩
        · cases ht
      · rename_i h9 _; exact absurd hu2 (by simp_all)
    · cases hp
end
end Go.Proofs.YtmlfcopllfdjfaaGreat.Am
