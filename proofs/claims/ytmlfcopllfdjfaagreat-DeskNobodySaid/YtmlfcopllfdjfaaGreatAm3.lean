/- An abstract machine for the program's code, and that it is sound: part Am3. -/
import Derived.Test.YtmlfcopllfdjfaaGreatAm2
import Derived.Laws.Strings
import Derived.Laws.Entries
import Derived.Laws.StructEq
namespace Go.Proofs.YtmlfcopllfdjfaaGreat.Am
variable {P : Program} {Θ : Th} {G : Gm}

/-! ### Texts -/

theorem map_toNat_inj (a b : List UInt8) : a.map UInt8.toNat = b.map UInt8.toNat ↔ a = b := by
  constructor
  · intro h
    induction a generalizing b with
    | nil => cases b with
      | nil => rfl
      | cons y b => simp at h
    | cons x a ih => cases b with
      | nil => simp at h
      | cons y b =>
        simp only [List.map_cons, List.cons.injEq] at h
        rw [ih b h.2, UInt8.toNat_inj.1 h.1]
  · intro h; rw [h]

theorem seq_eq : ∀ (x y : List Nat), seq x y = decide (x = y)
  | [], [] => by simp [seq]
  | [], _ :: _ => by simp [seq]
  | _ :: _, [] => by simp [seq]
  | a :: x, b :: y => by
    simp only [seq]
    by_cases e : a = b
    · subst e; have : Nat.beq a a = true := Nat.beq_refl a
      rw [this]; simp [seq_eq x y]
    · have : Nat.beq a b = false := by cases h : Nat.beq a b with
        | false => rfl
        | true => exact absurd (Nat.eq_of_beq_eq_true h) e
      rw [this]; simp [e]

theorem seq_bytes (a b : List UInt8) : seq (a.map UInt8.toNat) (b.map UInt8.toNat) = (a == b) := by
  rw [seq_eq, Bool.eq_iff_iff]; simp [map_toNat_inj]

theorem slt_bytes : ∀ (a b : List UInt8), slt (a.map UInt8.toNat) (b.map UInt8.toNat) = Op.bytesLess a b
  | a, [] => by cases a <;> simp [slt, Op.bytesLess]
  | [], _ :: _ => by simp [slt, Op.bytesLess]
  | x :: a, y :: b => by
    simp only [List.map_cons, slt, Op.bytesLess, slt_bytes a b]
    have h1 : Nat.blt x.toNat y.toNat = decide (x < y) := by
      rw [Bool.eq_iff_iff]; simp [UInt8.lt_iff_toNat_lt]
    have h2 : Nat.beq x.toNat y.toNat = (x == y) := by
      rw [Bool.eq_iff_iff]; simp [UInt8.toNat_inj]
    rw [h1, h2]
    by_cases h : x < y
    · simp [h]
    · cases he : (x == y) <;> simp [h]

theorem kindEq_eq (a b : IntKind) : kindEq a b = decide (a = b) := by cases a <;> cases b <;> rfl

/-! ### Types -/

theorem cSize_some {t : TypeId} {n : Nat} (h : cSize P t = some n) : ∃ i, P.info? t = some i ∧ i.size = n := by
  unfold cSize at h
  cases hi : P.info? t with
  | none => rw [hi] at h; cases h
  | some i => rw [hi] at h; cases h; exact ⟨i, rfl, rfl⟩

theorem run_size {t : TypeId} {n : Nat} (h : cSize P t = some n) (w : World) : (sizeOf t).run P w = .ok n w := by
  obtain ⟨i, hi, rfl⟩ := cSize_some h
  simp [sizeOf, typeInfo, hi]

theorem run_info {t : TypeId} {i : TypeInfo} (h : P.info? t = some i) (w : World) : (typeInfo t).run P w = .ok i w := by
  simp [typeInfo, h]

theorem run_agg {t : TypeId} {b : Bool} (h : cAgg P t = some b) (w : World) : (isAgg t).run P w = .ok b w := by
  unfold cAgg at h
  cases hd : P.underlying t with
  | none => rw [hd] at h; cases h
  | some d =>
    rw [hd] at h
    simp only [isAgg, Sem.run_bind, run_underlying hd w, Result.andThen_ok]
    cases d <;> (simp at h; subst h; rfl)

theorem mapM_some {α β : Type} {f : α → Option β} : ∀ {l : List α} {r : List β}, l.mapM f = some r → l.length = r.length ∧ ∀ (i : Nat) x, l[i]? = some x → ∃ y, r[i]? = some y ∧ f x = some y
  | [], r, h => by simp at h; subst h; exact ⟨rfl, fun i x h => by simp at h⟩
  | a :: l, r, h => by
    rw [List.mapM_cons] at h
    cases ha : f a with
    | none => rw [ha] at h; cases h
    | some b =>
      cases hl : l.mapM f with
      | none => rw [ha, hl] at h; cases h
      | some r' =>
        rw [ha, hl] at h
        cases h
        obtain ⟨h1, h2⟩ := mapM_some hl
        refine ⟨by simp [h1], fun i x hx => ?_⟩
        cases i with
        | zero => simp at hx; subst hx; exact ⟨b, rfl, ha⟩
        | succ i => simpa using h2 i x (by simpa using hx)

theorem cVal_sound : ∀ (n : Nat) (v : Value) (x : AV), cVal n v = some x → RV Θ G x v
  | 0, _, _, h => by cases h
  | n + 1, v, x, h => by
    unfold cVal at h
    split at h
    · cases h; exact .b _
    · cases h; exact .i _ _
    · cases h; exact .s _
    · cases h; exact .np
    · cases h; exact .nsl
    · cases h; exact .nm
    · cases h; exact .nf
    · cases h; exact .ni
    · rename_i cs
      cases hm : cs.toList.mapM (cVal n) with
      | none => rw [hm] at h; cases h
      | some l =>
        rw [hm] at h; cases h
        obtain ⟨h1, h2⟩ := mapM_some hm
        refine RL.ag_iff.2 ⟨h1.symm, fun i a b ha hb => ?_⟩
        obtain ⟨y, hy, hf⟩ := h2 i b hb
        rw [ha] at hy; cases hy
        exact cVal_sound n b a hf
    · rename_i cs
      cases hm : cs.toList.mapM (cVal n) with
      | none => rw [hm] at h; cases h
      | some l =>
        rw [hm] at h; cases h
        obtain ⟨h1, h2⟩ := mapM_some hm
        refine RL.tp_iff.2 ⟨h1.symm, fun i a b ha hb => ?_⟩
        obtain ⟨y, hy, hf⟩ := h2 i b hb
        rw [ha] at hy; cases hy
        exact cVal_sound n b a hf
    · rename_i f first cap
      split at h
      · rename_i hc
        cases h
        refine RL.f_iff.2 ⟨.func _, ?_, ?_⟩
        · have : first.toList = [] := by have := hc.1; simpa using this
          rw [this]; exact RL.nil
        · have : cap.toList = [] := by have := hc.2; simpa using this
          rw [this]; exact RL.nil
      · cases h
    · cases h

theorem cZero_sound {t : TypeId} {z : AV} (h : cZero P t = some z) : ∃ i v, P.info? t = some i ∧ i.zero = some v ∧ RV Θ G z v ∧ (∀ w, (zeroValue t).run P w = .ok v w) := by
  unfold cZero at h
  cases hi : P.info? t with
  | none => rw [hi] at h; cases h
  | some i =>
    rw [hi] at h
    simp only [Option.bind_some] at h
    cases hz : i.zero with
    | none => rw [hz] at h; cases h
    | some v =>
      rw [hz] at h
      exact ⟨i, v, rfl, hz, cVal_sound 3 v z h, fun w => by simp [zeroValue, typeInfo, hi, hz]⟩

theorem cZeroCells_sound (hΘ : Thin Θ) {t : TypeId} {z : List AV} (h : cZeroCells P t = some z) : ∃ v, RL Θ G z v.cells.toList ∧ (∀ w, (zeroValue t).run P w = .ok v w) := by
  unfold cZeroCells at h
  cases hz : cZero P t with
  | none => rw [hz] at h; cases h
  | some a =>
    rw [hz] at h; cases h
    obtain ⟨i, v, _, _, hv, hr⟩ := cZero_sound (Θ := Θ) (G := G) hz
    exact ⟨v, hv.cells hΘ, hr⟩

/-! ### '==' -/

theorem apart_sound {t : TypeId} {agg : Bool} {off sz : Nat} {cs : List AV} {cs' : Array Value} {x : AV} (ha : cAgg P t = some agg) (hs : cSize P t = some sz)
    (h : apart agg off sz cs = some x) (hc : RL Θ G cs cs'.toList) : ∃ v, RV Θ G x v ∧ ∀ w, (part t cs' off).run P w = .ok v w := by
  unfold apart at h
  cases agg with
  | true =>
    simp only [listK_eq] at h
    split at h
    · rename_i hle
      cases h
      refine ⟨.agg (cs'.extract off (off + sz)), RL.ag_iff.2 ?_, fun w => ?_⟩
      · have := (hc.drop off).take sz
        rw [show (cs'.extract off (off + sz)).toList = (cs'.toList.drop off).take sz by simp [Array.toList_extract]]
        exact this
      · simp [part, run_agg ha, run_size hs]
    · cases h
  | false =>
    simp only [List.head?_drop] at h
    obtain ⟨v, hv, hr⟩ := hc.get h
    refine ⟨v, hr, fun w => ?_⟩
    have : cs'[off]? = some v := by simpa using hv
    simp [part, run_agg ha, this]


/-- A field of a struct by the compiler. -/
def EqF (P : Program) (n : Nat) (f : Field) (x : Nat × Nat × Bool × EqT) : Prop :=
  f.name ≠ "_" ∧ x.1 = f.offset ∧ cSize P f.type = some x.2.1 ∧ cAgg P f.type = some x.2.2.1 ∧ cEq P n f.type = some x.2.2.2

theorem eqF_of {n : Nat} {f : Field} {x : Nat × Nat × Bool × EqT}
    (h : (if f.name = "_" then none else do pure (f.offset, (← cSize P f.type), (← cAgg P f.type), (← cEq P n f.type)) : Option (Nat × Nat × Bool × EqT)) = some x) : EqF P n f x := by
  split at h
  · cases h
  · rename_i hn
    cases h1 : cSize P f.type with
    | none => rw [h1] at h; cases h
    | some a =>
      cases h2 : cAgg P f.type with
      | none => rw [h1, h2] at h; cases h
      | some b =>
        cases h3 : cEq P n f.type with
        | none => rw [h1, h2, h3] at h; cases h
        | some c => rw [h1, h2, h3] at h; cases h; exact ⟨hn, rfl, h1, h2, h3⟩

theorem mapM_rel {α β : Type} {f : α → Option β} {R : α → β → Prop} (hf : ∀ a b, f a = some b → R a b) : ∀ {l : List α} {r : List β}, l.mapM f = some r → (l = [] ∧ r = []) ∨ ∃ a l' b r', l = a :: l' ∧ r = b :: r' ∧ R a b ∧ l'.mapM f = some r'
  | [], r, h => by simp at h; exact .inl ⟨rfl, h⟩
  | a :: l, r, h => by
    rw [List.mapM_cons] at h
    cases ha : f a with
    | none => rw [ha] at h; cases h
    | some b =>
      cases hl : l.mapM f with
      | none => rw [ha, hl] at h; cases h
      | some r' => rw [ha, hl] at h; cases h; exact .inr ⟨a, l, b, r', rfl, rfl, hf a b ha, hl⟩

theorem cEq_struct {n : Nat} {t : TypeId} {e : EqT} {fs : Array Field} (hu : P.underlying t = some (.struct fs)) (h : cEq P (n + 1) t = some e) :
    P.stoodInHeld t = false ∧ ∃ l, e = .ag l ∧ fs.toList.mapM (fun (f : Field) => if f.name = "_" then none else do
        pure (f.offset, (← cSize P f.type), (← cAgg P f.type), (← cEq P n f.type))) = some l := by
  unfold cEq at h
  rw [hu] at h
  simp only at h
  cases hs : P.stoodInHeld t with
  | true => rw [hs] at h; simp at h
  | false =>
    rw [hs] at h
    simp only [Bool.false_eq_true, if_false] at h
    cases hm : fs.toList.mapM (fun (f : Field) => if f.name = "_" then none else do
        pure (f.offset, (← cSize P f.type), (← cAgg P f.type), (← cEq P n f.type))) with
    | none => rw [hm] at h; cases h
    | some l => rw [hm] at h; cases h; exact ⟨rfl, l, rfl, rfl⟩

theorem at_beq (L : Loc) (x y : Nat) : (L.at x == L.at y) = Nat.beq x y := by
  rw [Bool.eq_iff_iff]
  simp [Loc.at]

set_option maxHeartbeats 1000000 in
theorem aeq_int {x y : AV} {r : Bool} (h : aeq .int x y = some r) : ∃ k a b, x = .i k a ∧ y = .i k b ∧ r = decide (a = b) := by
  cases x with
  | i k a =>
    cases y with
    | i k' b =>
      simp only [aeq, kindEq_eq] at h
      by_cases hk : k = k'
      · subst hk; simp at h; exact ⟨k, a, b, rfl, rfl, h.symm⟩
      · simp [hk] at h
    | _ => simp [aeq] at h
  | _ => simp [aeq] at h

theorem aeq_str {x y : AV} {r : Bool} (h : aeq .str x y = some r) : ∃ a b, x = .s a ∧ y = .s b ∧ r = seq a b := by
  cases x with
  | s a =>
    cases y with
    | s b => simp only [aeq] at h; cases h; exact ⟨a, b, rfl, rfl, rfl⟩
    | _ => simp [aeq] at h
  | _ => simp [aeq] at h

theorem aeq_bool {x y : AV} {r : Bool} (h : aeq .bool x y = some r) : ∃ a b, x = .b a ∧ y = .b b ∧ r = (a == b) := by
  cases x with
  | b a =>
    cases y with
    | b b => simp only [aeq] at h; cases h; exact ⟨a, b, rfl, rfl, rfl⟩
    | _ => simp [aeq] at h
  | _ => simp [aeq] at h

theorem aeq_ptr {x y : AV} {r : Bool} (h : aeq .ptr x y = some r) :
    (x = .np ∧ y = .np ∧ r = true) ∨ (∃ i o, x = .p i o ∧ y = .np ∧ r = false) ∨ (∃ i o, x = .np ∧ y = .p i o ∧ r = false) ∨ (∃ i o o', x = .p i o ∧ y = .p i o' ∧ r = Nat.beq o o') := by
  cases x with
  | p i o =>
    cases y with
    | p i' o' =>
      simp only [aeq] at h
      cases hb : Nat.beq i i' with
      | false => rw [hb] at h; cases h
      | true =>
        rw [hb] at h; cases h
        have hii : i = i' := Nat.eq_of_beq_eq_true hb
        subst hii
        exact .inr (.inr (.inr ⟨i, o, o', rfl, rfl, rfl⟩))
    | np => simp only [aeq] at h; cases h; exact .inr (.inl ⟨i, o, rfl, rfl, rfl⟩)
    | _ => simp [aeq] at h
  | np =>
    cases y with
    | p i' o' => simp only [aeq] at h; cases h; exact .inr (.inr (.inl ⟨i', o', rfl, rfl, rfl⟩))
    | np => simp only [aeq] at h; cases h; exact .inl ⟨rfl, rfl, rfl⟩
    | _ => simp [aeq] at h
  | _ => simp [aeq] at h

theorem aeq_nils {x y : AV} {r : Bool} (h : aeq .nils x y = some r) {vx vy : Value} (hx : RV Θ G x vx) (hy : RV Θ G y vy) :
    ∃ p l c q l' c', vx = .slice p l c ∧ vy = .slice q l' c' ∧ (p = none ∧ r = q.isNone ∨ q = none ∧ r = p.isNone) := by
  cases x with
  | nsl =>
    cases y with
    | nsl => simp only [aeq] at h; cases h; cases hx; cases hy; exact ⟨_, _, _, _, _, _, rfl, rfl, .inl ⟨rfl, rfl⟩⟩
    | sl => simp only [aeq] at h; cases h; cases hx; cases hy <;> exact ⟨_, _, _, _, _, _, rfl, rfl, .inl ⟨rfl, rfl⟩⟩
    | zs => simp only [aeq] at h; cases h; cases hx; cases hy; exact ⟨_, _, _, _, _, _, rfl, rfl, .inl ⟨rfl, rfl⟩⟩
    | _ => simp [aeq] at h
  | sl =>
    cases y with
    | nsl => simp only [aeq] at h; cases h; cases hy; cases hx <;> exact ⟨_, _, _, _, _, _, rfl, rfl, .inr ⟨rfl, rfl⟩⟩
    | _ => simp [aeq] at h
  | zs =>
    cases y with
    | nsl => simp only [aeq] at h; cases h; cases hy; cases hx; exact ⟨_, _, _, _, _, _, rfl, rfl, .inr ⟨rfl, rfl⟩⟩
    | _ => simp [aeq] at h
  | _ => simp [aeq] at h

theorem aeq_nilm {x y : AV} {r : Bool} (h : aeq .nilm x y = some r) {vx vy : Value} (hx : RV Θ G x vx) (hy : RV Θ G y vy) :
    ∃ p q, vx = .map p ∧ vy = .map q ∧ (p = none ∧ r = q.isNone ∨ q = none ∧ r = p.isNone) := by
  cases x with
  | nm =>
    cases y with
    | nm => simp only [aeq] at h; cases h; cases hx; cases hy; exact ⟨_, _, rfl, rfl, .inl ⟨rfl, rfl⟩⟩
    | m => simp only [aeq] at h; cases h; cases hx; cases hy; exact ⟨_, _, rfl, rfl, .inl ⟨rfl, rfl⟩⟩
    | _ => simp [aeq] at h
  | m =>
    cases y with
    | nm => simp only [aeq] at h; cases h; cases hy; cases hx; exact ⟨_, _, rfl, rfl, .inr ⟨rfl, rfl⟩⟩
    | _ => simp [aeq] at h
  | _ => simp [aeq] at h

theorem aeq_nilf {x y : AV} {r : Bool} (h : aeq .nilf x y = some r) {vx vy : Value} (hx : RV Θ G x vx) (hy : RV Θ G y vy) :
    (vx = .nilFunc ∧ vy = .nilFunc ∧ r = true) ∨ (vx = .nilFunc ∧ (∃ a b c, vy = .func a b c) ∧ r = false) ∨ ((∃ a b c, vx = .func a b c) ∧ vy = .nilFunc ∧ r = false) := by
  cases x with
  | nf =>
    cases y with
    | nf => simp only [aeq] at h; cases h; cases hx; cases hy; exact .inl ⟨rfl, rfl, rfl⟩
    | f => simp only [aeq] at h; cases h; cases hx; cases hy; exact .inr (.inl ⟨rfl, ⟨_, _, _, rfl⟩, rfl⟩)
    | _ => simp [aeq] at h
  | f =>
    cases y with
    | nf => simp only [aeq] at h; cases h; cases hy; cases hx; exact .inr (.inr ⟨⟨_, _, _, rfl⟩, rfl, rfl⟩)
    | _ => simp [aeq] at h
  | _ => simp [aeq] at h

theorem aeq_ag {l : List (Nat × Nat × Bool × EqT)} {x y : AV} {r : Bool} (h : aeq (.ag l) x y = some r) : ∃ a b, x = .ag a ∧ y = .ag b ∧ aeqs l a b = some r := by
  cases x with
  | ag a =>
    cases y with
    | ag b => simp only [aeq] at h; exact ⟨a, b, rfl, rfl, h⟩
    | _ => simp [aeq] at h
  | _ => simp [aeq] at h

/-- What the compiler's word for a type means. -/
theorem cEq_inv {n : Nat} {t : TypeId} {e : EqT} (h : cEq P (n + 1) t = some e) : ∃ td, P.underlying t = some td ∧
    ((∃ k, td = .int k ∧ e = .int) ∨ (td = .string ∧ e = .str) ∨ (td = .bool ∧ e = .bool) ∨ (∃ el m, td = .pointer el ∧ e = .ptr ∧ cSize P el = some (m + 1)) ∨ (∃ el, td = .slice el ∧ e = .nils) ∨
     (∃ a b, td = .map a b ∧ e = .nilm) ∨ (∃ a b c, td = .func a b c ∧ e = .nilf) ∨ (∃ fs, td = .struct fs)) := by
  cases hu : P.underlying t with
  | none => unfold cEq at h; rw [hu] at h; cases h
  | some td =>
    refine ⟨td, rfl, ?_⟩
    unfold cEq at h
    rw [hu] at h
    cases td with
    | int k => cases h; exact .inl ⟨k, rfl, rfl⟩
    | string => cases h; exact .inr (.inl ⟨rfl, rfl⟩)
    | bool => cases h; exact .inr (.inr (.inl ⟨rfl, rfl⟩))
    | pointer el =>
      simp only at h
      cases hs : cSize P el with
      | none => rw [hs] at h; cases h
      | some m =>
        cases m with
        | zero => rw [hs] at h; cases h
        | succ m => rw [hs] at h; cases h; exact .inr (.inr (.inr (.inl ⟨el, m, rfl, rfl, hs⟩)))
    | slice el => cases h; exact .inr (.inr (.inr (.inr (.inl ⟨el, rfl, rfl⟩))))
    | map a b => cases h; exact .inr (.inr (.inr (.inr (.inr (.inl ⟨a, b, rfl, rfl⟩)))))
    | func a b c => cases h; exact .inr (.inr (.inr (.inr (.inr (.inr (.inl ⟨a, b, c, rfl, rfl⟩))))))
    | struct fs => exact .inr (.inr (.inr (.inr (.inr (.inr (.inr ⟨fs, rfl⟩))))))
    | _ => cases h

set_option maxHeartbeats 2000000 in
mutual
theorem aeq_sound : ∀ (n : Nat) (t : TypeId) (e : EqT), cEq P n t = some e → ∀ (x y : AV) (r : Bool), aeq e x y = some r → ∀ (vx vy : Value), RV Θ G x vx → RV Θ G y vy →
    ∀ (d : Nat) (w : World), n ≤ d → (Op.equalIn d t vx vy).run P w = .ok r w
  | 0, _, _, h => by cases h
  | n + 1, t, e, h => by
    intro x y r ha vx vy hx hy d w hd
    obtain ⟨d, rfl⟩ : ∃ m, d = m + 1 := ⟨d - 1, by omega⟩
    obtain ⟨td, hu, hc⟩ := cEq_inv h
    have hrun : ∀ w, (underlying t).run P w = .ok td w := fun w => run_underlying hu w
    rcases hc with ⟨k0, rfl, rfl⟩ | ⟨rfl, rfl⟩ | ⟨rfl, rfl⟩ | ⟨el, m, rfl, rfl, hs⟩ | ⟨el, rfl, rfl⟩ | ⟨a, b, rfl, rfl⟩ | ⟨a, b, c, rfl, rfl⟩ | ⟨fs, rfl⟩
    · obtain ⟨k, a, b, rfl, rfl, rfl⟩ := aeq_int ha
      cases hx; cases hy
      rw [run_equalIn_int w d t k k0 a b hu]; rfl
    · obtain ⟨a, b, rfl, rfl, rfl⟩ := aeq_str ha
      cases hx; cases hy
      rw [run_equalIn_string w d t _ _ hu, seq_bytes, ByteArray.toList_eq, ByteArray.toList_eq]
    · obtain ⟨a, b, rfl, rfl, rfl⟩ := aeq_bool ha
      cases hx; cases hy
      rw [run_equalIn_bool' w d t _ _ hu]
    · rcases aeq_ptr ha with ⟨rfl, rfl, rfl⟩ | ⟨i, o, rfl, rfl, rfl⟩ | ⟨i, o, rfl, rfl, rfl⟩ | ⟨i, o, o', rfl, rfl, rfl⟩
      · cases hx; cases hy; simp [Op.equalIn, hrun]
      · cases hx; cases hy; simp [Op.equalIn, hrun]
      · cases hx; cases hy; simp [Op.equalIn, hrun]
      · cases hx with | p _ h1 => cases hy with | p _ h2 =>
          rw [h1] at h2; cases h2
          simp only [Op.equalIn, Sem.run_bind, hrun, Result.andThen_ok, run_size hs]
          rw [if_pos (by omega)]
          simp [sameAddr, Loc.at]
          rw [Bool.eq_iff_iff]; simp
    · obtain ⟨p, l, c, q, l', c', rfl, rfl, ⟨rfl, rfl⟩ | ⟨rfl, rfl⟩⟩ := aeq_nils ha hx hy
      · simp [Op.equalIn, hrun]
      · cases p <;> simp [Op.equalIn, hrun]
    · obtain ⟨p, q, rfl, rfl, ⟨rfl, rfl⟩ | ⟨rfl, rfl⟩⟩ := aeq_nilm ha hx hy
      · simp [Op.equalIn, hrun]
      · cases p <;> simp [Op.equalIn, hrun]
    · rcases aeq_nilf ha hx hy with ⟨rfl, rfl, rfl⟩ | ⟨rfl, ⟨a, b, c, rfl⟩, rfl⟩ | ⟨⟨a, b, c, rfl⟩, rfl, rfl⟩ <;> simp [Op.equalIn, hrun]
    · obtain ⟨hst, l, rfl, hm⟩ := cEq_struct hu h
      obtain ⟨xs, ys, rfl, rfl, ha⟩ := aeq_ag ha
      obtain ⟨vxs, rfl⟩ : ∃ a, vx = .agg a := by cases hx; exact ⟨_, rfl⟩
      obtain ⟨vys, rfl⟩ : ∃ a, vy = .agg a := by cases hy; exact ⟨_, rfl⟩
      have hf : P.fieldsOf t = fs := by unfold Program.fieldsOf; rw [hu]
      rw [run_equalIn_struct w d t vxs vys (by rw [hf]; exact hu) hst, hf]
      exact aeqs_sound n fs.toList l hm xs ys r ha vxs vys (RL.ag_iff.1 hx) (RL.ag_iff.1 hy) d w (by omega)
theorem aeqs_sound : ∀ (n : Nat) (fs : List Field) (l : List (Nat × Nat × Bool × EqT)), fs.mapM (fun (f : Field) => if f.name = "_" then none else do
        pure (f.offset, (← cSize P f.type), (← cAgg P f.type), (← cEq P n f.type))) = some l → ∀ (x y : List AV) (r : Bool), aeqs l x y = some r → ∀ (vx vy : Array Value), RL Θ G x vx.toList → RL Θ G y vy.toList →
    ∀ (d : Nat) (w : World), n ≤ d → (Op.eqFields d vx vy fs).run P w = .ok r w
  | n, [], l, hm => by
    intro x y r ha vx vy hx hy d w hd
    simp at hm; subst hm
    simp only [aeqs] at ha; cases ha
    simp [Op.eqFields]
  | n, f :: fs, l, hm => by
    intro x y r ha vx vy hx hy d w hd
    rcases mapM_rel (R := EqF P n) (fun a b h => eqF_of h) hm with ⟨h, _⟩ | ⟨a, l', b, r', h1, h2, h3, h4⟩
    · cases h
    · cases h1
      subst h2
      obtain ⟨off, sz, agg, e⟩ := b
      obtain ⟨q1, q2, q3, q4, q5⟩ := h3
      simp only at q2 q3 q4 q5
      subst q2
      simp only [aeqs] at ha
      cases ap : apart agg f.offset sz x with
      | none => rw [ap] at ha; cases ha
      | some a =>
        cases bp : apart agg f.offset sz y with
        | none => rw [ap, bp] at ha; cases ha
        | some b =>
          rw [ap, bp] at ha
          simp only at ha
          obtain ⟨va, ra, pa⟩ := apart_sound q4 q3 ap hx
          obtain ⟨vb, rb, pb⟩ := apart_sound q4 q3 bp hy
          cases he : aeq e a b with
          | none => rw [he] at ha; cases ha
          | some q =>
            have hq := aeq_sound n f.type e q5 a b q he va vb ra rb d w hd
            rw [he] at ha
            simp only [Op.eqFields, q1, ne_eq, not_false_eq_true, if_true, Sem.run_bind, pa, pb, hq, Result.andThen_ok]
            cases q with
            | true => simp only [Bool.not_true, Bool.false_eq_true, if_false]; exact aeqs_sound n fs r' h4 x y r ha vx vy hx hy d w hd
            | false => cases ha; simp
end

/-! ### Binary and unary operations -/

theorem cEqOf_inv {t : TypeId} {e : EqT} (h : cEqOf P t = e) (hn : e ≠ .no) : cEq P 5 t = some e ∧ (∀ fs, P.underlying t = some (.struct fs) → P.eqGuardType P.depth t = false) := by
  unfold cEqOf at h
  cases hc : cEq P 5 t with
  | none => rw [hc] at h; exact absurd (by split at h <;> (try split at h) <;> exact h.symm) hn
  | some e' =>
    rw [hc] at h
    split at h
    · rename_i fs hu
      split at h
      · exact absurd h.symm hn
      · rename_i hg; cases h; exact ⟨rfl, fun _ _ => by simpa using hg⟩
    · rename_i a b hu
      split at h
      · exact absurd h.symm hn
      · cases h; exact ⟨rfl, fun fs hf => by rw [hu] at hf; cases hf⟩
    · rename_i hx _
      cases h
      exact ⟨rfl, fun fs hf => absurd hf (hx fs)⟩

theorem eqGuard_run {op : BinOp} {t : TypeId} {e : EqT} (he : cEqOf P t = e) (hn : e ≠ .no) {x y : AV} {r : Bool} (ha : aeq e x y = some r) {vx vy : Value} (hx : RV Θ G x vx) (hy : RV Θ G y vy) (a b : Operand) (w : World) :
    (eqGuard op t a b vx vy).run P w = .ok () w := by
  obtain ⟨hc, hg⟩ := cEqOf_inv he hn
  obtain ⟨td, hu, h⟩ := cEq_inv hc
  by_cases hs : ∃ fs, td = .struct fs
  · obtain ⟨fs, rfl⟩ := hs
    have hgd := hg fs hu
    obtain ⟨_, l, rfl, hm⟩ := cEq_struct hu hc
    obtain ⟨xs, ys, rfl, rfl, _⟩ := aeq_ag ha
    cases hx; cases hy
    exact run_eqGuard_agg w op t a b _ _ hgd
  · have key : ∀ vx vy, ¬ (vx = .nilIface ∧ vy = .nilIface) → ¬ ((∃ a, vx = .agg a) ∧ ∃ a, vy = .agg a) → (eqGuard op t a b vx vy).run P w = .ok () w := by
      intro vx vy h1 h2
      unfold eqGuard
      split <;> first
        | rfl
        | (rw [if_neg (by decide)]
           split
           · exact absurd ⟨rfl, rfl⟩ h1
           · exact absurd ⟨⟨_, rfl⟩, ⟨_, rfl⟩⟩ h2
           · rfl)
    have hno : ∀ z, (∃ i, z = .q i) → ∀ u q, aeq e z u = some q → False := by
      rintro z ⟨i, rfl⟩ u q hq
      rcases h with ⟨k0, rfl, rfl⟩ | ⟨rfl, rfl⟩ | ⟨rfl, rfl⟩ | ⟨el, m, rfl, rfl, hs⟩ | ⟨el, rfl, rfl⟩ | ⟨a, b, rfl, rfl⟩ | ⟨a, b, c, rfl, rfl⟩ | ⟨fs, rfl⟩ <;> first | (simp [aeq] at hq; done) | exact hs ⟨_, rfl⟩
    apply key
    · rintro ⟨h1, _⟩
      have : x = .ni ∨ ∃ i, x = .q i := by
        cases hx <;> first | (cases h1; done) | exact .inl rfl | exact .inr ⟨_, rfl⟩
      rcases this with rfl | hq
      · rcases h with ⟨k0, rfl, rfl⟩ | ⟨rfl, rfl⟩ | ⟨rfl, rfl⟩ | ⟨el, m, rfl, rfl, hs⟩ | ⟨el, rfl, rfl⟩ | ⟨a, b, rfl, rfl⟩ | ⟨a, b, c, rfl, rfl⟩ | ⟨fs, rfl⟩ <;> first | (simp [aeq] at ha; done) | exact hs ⟨_, rfl⟩
      · exact hno x hq _ _ ha
    · rintro ⟨⟨q, h1⟩, _⟩
      have : (∃ l, x = .ag l) ∨ ∃ i, x = .q i := by
        cases hx <;> first | (cases h1; done) | exact .inl ⟨_, rfl⟩ | exact .inr ⟨_, rfl⟩
      rcases this with ⟨l, rfl⟩ | hq
      · rcases h with ⟨k0, rfl, rfl⟩ | ⟨rfl, rfl⟩ | ⟨rfl, rfl⟩ | ⟨el, m, rfl, rfl, hs⟩ | ⟨el, rfl, rfl⟩ | ⟨a, b, rfl, rfl⟩ | ⟨a, b, c, rfl, rfl⟩ | ⟨fs, rfl⟩ <;> first | (simp [aeq] at ha; done) | exact hs ⟨_, rfl⟩
      · exact hno x hq _ _ ha

end Go.Proofs.YtmlfcopllfdjfaaGreat.Am
