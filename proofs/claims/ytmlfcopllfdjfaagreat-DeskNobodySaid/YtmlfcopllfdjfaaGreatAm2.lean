/- An abstract machine for the program's code, and that it is sound: part Am2. -/
import Derived.Test.YtmlfcopllfdjfaaGreatAm1
import Derived.Calls
import Derived.Laws.World
import Derived.Laws.Cells
namespace Go.Proofs.YtmlfcopllfdjfaaGreat.Am

/-! ### Trees -/
namespace Tr
variable {α β : Type}

theorem get_setF : ∀ (f : Nat) (t : Tr α) (k j : Nat) (x : α), k < f → (setF f t k x).get j = if j = k then some x else t.get j
  | 0, _, _, _, _, h => absurd h (Nat.not_lt_zero _)
  | f + 1, t, k, j, x, h => by
    have hk : Nat.beq k 0 = decide (k = 0) := by cases k <;> rfl
    have hj : Nat.beq j 0 = decide (j = 0) := by cases j <;> rfl
    have ho : ∀ n, Nat.beq (n % 2) 1 = decide (n % 2 = 1) := fun n => by rw [Bool.eq_iff_iff]; simp
    cases t with
    | e =>
      simp only [setF, hk, ho]
      by_cases k0 : k = 0
      · subst k0; simp only [decide_true, get, hj, ho]; by_cases j0 : j = 0
        · subst j0; simp
        · simp only [j0, decide_false]; split <;> simp
      · by_cases k1 : k % 2 = 1
        · simp only [k0, k1, decide_false, decide_true, get, hj, ho]
          by_cases j0 : j = 0
          · subst j0; simp; omega
          · by_cases j1 : j % 2 = 1
            · simp only [j0, j1, decide_false, decide_true]
              rw [get_setF f .e (k / 2) (j / 2) x (by omega)]
              by_cases e : j = k
              · subst e; simp
              · rw [if_neg (by omega), if_neg e]; rfl
            · simp only [j0, j1, decide_false]; rw [if_neg (by omega)]
        · simp only [k0, k1, decide_false, get, hj, ho]
          by_cases j0 : j = 0
          · subst j0; simp; omega
          · by_cases j1 : j % 2 = 1
            · simp only [j0, j1, decide_false, decide_true]; rw [if_neg (by omega)]
            · simp only [j0, j1, decide_false]
              rw [get_setF f .e (k / 2 - 1) (j / 2 - 1) x (by omega)]
              by_cases e : j = k
              · subst e; simp
              · rw [if_neg (by omega), if_neg e]; rfl
    | n l v r =>
      simp only [setF, hk, ho]
      by_cases k0 : k = 0
      · subst k0; simp only [decide_true, get, hj, ho]; by_cases j0 : j = 0
        · subst j0; simp
        · simp [j0]
      · by_cases k1 : k % 2 = 1
        · simp only [k0, k1, decide_false, decide_true, get, hj, ho]
          by_cases j0 : j = 0
          · subst j0; simp; omega
          · by_cases j1 : j % 2 = 1
            · simp only [j0, j1, decide_false, decide_true]
              rw [get_setF f l (k / 2) (j / 2) x (by omega)]
              by_cases e : j = k
              · subst e; simp
              · rw [if_neg (by omega), if_neg e]
            · simp only [j0, j1, decide_false]; rw [if_neg (by omega)]
        · simp only [k0, k1, decide_false, get, hj, ho]
          by_cases j0 : j = 0
          · subst j0; simp; omega
          · by_cases j1 : j % 2 = 1
            · simp only [j0, j1, decide_false, decide_true]; rw [if_neg (by omega)]
            · simp only [j0, j1, decide_false]
              rw [get_setF f r (k / 2 - 1) (j / 2 - 1) x (by omega)]
              by_cases e : j = k
              · subst e; simp
              · rw [if_neg (by omega), if_neg e]

theorem get_set (t : Tr α) (k j : Nat) (x : α) : (t.set k x).get j = if j = k then some x else t.get j := get_setF (k + 1) t k j x (by omega)

theorem setFK_eq : ∀ (f : Nat) (t : Tr α) (k : Nat) (x : α) (c : Tr α → β), setFK f t k x c = c (setF f t k x)
  | 0, _, _, _, _ => rfl
  | f + 1, t, k, x, c => by
    cases t <;> simp only [setFK, setF] <;> split <;> (try rfl) <;> split <;> simp only [setFK_eq f]

theorem setK_eq (t : Tr α) (k : Nat) (x : α) (c : Tr α → β) : setK t k x c = c (t.set k x) := setFK_eq _ _ _ _ _

end Tr

theorem natK_eq {β : Type} (n : Nat) (c : Nat → β) : natK n c = c n := by cases n <;> rfl
theorem intK_eq {β : Type} (n : Int) (c : Int → β) : intK n c = c n := by cases n <;> simp [intK, natK_eq]
theorem boolK_eq {β : Type} (x : Bool) (c : Bool → β) : boolK x c = c x := by cases x <;> rfl
theorem listK_eq {α β : Type} (l : List α) (c : List α → β) : listK l c = c l := by
  induction l generalizing c with
  | nil => rfl
  | cons a l ih => simp only [listK, ih]
theorem natsK_eq {β : Type} (l : List Nat) (c : List Nat → β) : natsK l c = c l := by
  induction l generalizing c with
  | nil => rfl
  | cons a l ih => simp only [natsK, natK_eq, ih]
theorem vi_eq {β : Type} (k : IntKind) (n : Int) (c : Option AV → β) : vi k n c = c (some (.i k n)) := intK_eq _ _

/-! ### All ways -/

/-- Of each way that a result has: it is fine, and so it ends. -/
def Res.all {α : Type} (Q : α → AH → Prop) : Res α → Prop
  | .ok a h => Q a h
  | .err _ => False
  | .ask n k => ∀ i, i < n → (k i).all Q

theorem Res.all_bind {α β : Type} (Q : β → AH → Prop) (r : Res α) (f : α → AH → Res β) :
    (r.bind f).all Q ↔ r.all fun a h => (f a h).all Q := by
  induction r with
  | ok a h => rfl
  | err e => rfl
  | ask n k ih =>
    show (∀ i, i < n → ((k i).bind f).all Q) ↔ _
    exact ⟨fun h i hi => (ih i).1 (h i hi), fun h i hi => (ih i).2 (h i hi)⟩

theorem Res.all_mono {α : Type} {Q Q' : α → AH → Prop} {r : Res α} (h : r.all Q) (m : ∀ a h, Q a h → Q' a h) : r.all Q' := by
  induction r with
  | ok a h' => exact m _ _ h
  | err e => exact h
  | ask n k ih => exact fun i hi => ih i (h i hi)

/-! ### Where things lie -/

structure Loc where
  blk : Nat
  base : Nat
  size : Nat

abbrev Gm := Nat → Option Loc

def Loc.at (L : Loc) (off : Nat) : Addr := ⟨L.blk, L.base + off, none⟩

inductive RFn (G : Gm) : Fn → Fn → Prop where
  | func (f : FuncId) : RFn G (.func f) (.func f)
  | yield {l : Nat} {L : Loc} (h : G l = some L) : RFn G (.yield l) (.yield L.blk)

/-- Opaque values, and the world in which they are read. -/
structure Th where
  v : Nat → Value
  W : World

instance : CoeFun Th fun _ => Nat → Value := ⟨Th.v⟩

variable (Θ : Th)

inductive RV (G : Gm) : AV → Value → Prop where
  | b (x : Bool) : RV G (.b x) (.bool x)
  | i (k : IntKind) (n : Int) : RV G (.i k n) (.int k n)
  | s (s : ByteArray) : RV G (.s (s.data.toList.map UInt8.toNat)) (.string s)
  | p {id : Nat} {L : Loc} (off : Nat) (h : G id = some L) : RV G (.p id off) (.pointer (some (L.at off)))
  | np : RV G .np (.pointer none)
  | sle {id : Nat} {L : Loc} (off len c : Nat) (h : G id = some L) : RV G (.sl id off len (.ex c)) (.slice (some (L.at off)) len c)
  | slt {id : Nat} {L : Loc} (off len esz c : Nat) (h : G id = some L) (hz : 0 < esz) (hc : c * esz + off = L.size) : RV G (.sl id off len (.tail esz)) (.slice (some (L.at off)) len c)
  | zs (a : Addr) (c : Nat) : RV G .zs (.slice (some a) 0 c)
  | nsl : RV G .nsl (.slice none 0 0)
  | m {id : Nat} {L : Loc} (h : G id = some L) : RV G (.m id) (.map (some L.blk))
  | nm : RV G .nm (.map none)
  | f {fn fn' : Fn} {a b : List AV} {a' b' : Array Value} (h : RFn G fn fn') (ha : a.length = a'.size) (hb : b.length = b'.size)
      (ea : ∀ (i : Nat) x y, a[i]? = some x → a'[i]? = some y → RV G x y) (eb : ∀ (i : Nat) x y, b[i]? = some x → b'[i]? = some y → RV G x y) : RV G (.f fn a b) (.func fn' a' b')
  | nf : RV G .nf .nilFunc
  | ifc {v : AV} {v' : Value} (t : TypeId) (h : RV G v v') : RV G (.ifc t v) (.iface t v')
  | ni : RV G .ni .nilIface
  | ag {a : List AV} {a' : Array Value} (ha : a.length = a'.size) (ea : ∀ (i : Nat) x y, a[i]? = some x → a'[i]? = some y → RV G x y) : RV G (.ag a) (.agg a')
  | tp {a : List AV} {a' : Array Value} (ha : a.length = a'.size) (ea : ∀ (i : Nat) x y, a[i]? = some x → a'[i]? = some y → RV G x y) : RV G (.tp a) (.tuple a')
  | q (i : Nat) : RV G (.q i) (Θ i)

/-- Lists of values. -/
def RL (G : Gm) (a : List AV) (b : List Value) : Prop := a.length = b.length ∧ ∀ (i : Nat) x y, a[i]? = some x → b[i]? = some y → RV Θ G x y

variable {Θ}

theorem RL.nil {G : Gm} : RL Θ G [] [] := ⟨rfl, fun i x y h => by simp at h⟩

theorem RL.cons {G : Gm} {x : AV} {y : Value} {a : List AV} {b : List Value} (h : RV Θ G x y) (t : RL Θ G a b) : RL Θ G (x :: a) (y :: b) := by
  refine ⟨by simp [t.1], fun i u v hu hv => ?_⟩
  cases i with
  | zero => simp at hu hv; subst hu; subst hv; exact h
  | succ i => simp at hu hv; exact t.2 i u v hu hv

theorem RL.nil_inv {G : Gm} {b : List Value} (h : RL Θ G [] b) : b = [] := by
  exact List.length_eq_zero_iff.1 (by simpa using h.1.symm)

theorem RL.cons_inv {G : Gm} {x : AV} {a : List AV} {b : List Value} (h : RL Θ G (x :: a) b) : ∃ y b', b = y :: b' ∧ RV Θ G x y ∧ RL Θ G a b' := by
  cases b with
  | nil => have := h.1; simp at this
  | cons y b =>
    refine ⟨y, b, rfl, h.2 0 x y rfl rfl, ?_, fun i u v hu hv => h.2 (i + 1) u v (by simpa using hu) (by simpa using hv)⟩
    have := h.1; simp at this; exact this

theorem RL.append {G : Gm} {a c : List AV} {b d : List Value} (h : RL Θ G a b) (h' : RL Θ G c d) : RL Θ G (a ++ c) (b ++ d) := by
  induction a generalizing b with
  | nil => rw [h.nil_inv]; exact h'
  | cons x a ih =>
    obtain ⟨y, b', rfl, h1, h2⟩ := h.cons_inv
    exact (RL.cons h1 (ih h2))

theorem RL.drop {G : Gm} {a : List AV} {b : List Value} (n : Nat) (h : RL Θ G a b) : RL Θ G (a.drop n) (b.drop n) :=
  ⟨by simp [h.1], fun i x y hx hy => h.2 (n + i) x y (by simpa using hx) (by simpa using hy)⟩

theorem RL.take {G : Gm} {a : List AV} {b : List Value} (n : Nat) (h : RL Θ G a b) : RL Θ G (a.take n) (b.take n) := by
  refine ⟨by simp [h.1], fun i x y hx hy => ?_⟩
  rw [List.getElem?_take] at hx hy
  split at hx
  · rename_i hlt; rw [if_pos hlt] at hy; exact h.2 i x y hx hy
  · simp at hx

theorem RL.get {G : Gm} {a : List AV} {b : List Value} (h : RL Θ G a b) {i : Nat} {x : AV} (hx : a[i]? = some x) : ∃ y, b[i]? = some y ∧ RV Θ G x y := by
  have hi : i < a.length := by
    rcases Nat.lt_or_ge i a.length with h' | h'
    · exact h'
    · simp [List.getElem?_eq_none h'] at hx
  have hi' : i < b.length := h.1 ▸ hi
  exact ⟨b[i], by simp [hi'], h.2 i x _ hx (by simp [hi'])⟩

theorem RL.of_map {G : Gm} {α : Type} (l : List α) (f : α → AV) (g : α → Value) (h : ∀ x ∈ l, RV Θ G (f x) (g x)) : RL Θ G (l.map f) (l.map g) := by
  induction l with
  | nil => exact RL.nil
  | cons a l ih => exact RL.cons (h a (by simp)) (ih fun x hx => h x (by simp [hx]))

theorem RL.ag_iff {G : Gm} {a : List AV} {a' : Array Value} : RV Θ G (.ag a) (.agg a') ↔ RL Θ G a a'.toList := by
  constructor
  · intro h; cases h with | ag ha ea => exact ⟨by simpa using ha, fun i x y hx hy => ea i x y hx (by simpa using hy)⟩
  · intro h; exact .ag (by simpa using h.1) fun i x y hx hy => h.2 i x y hx (by simpa using hy)

theorem RL.tp_iff {G : Gm} {a : List AV} {a' : Array Value} : RV Θ G (.tp a) (.tuple a') ↔ RL Θ G a a'.toList := by
  constructor
  · intro h; cases h with | tp ha ea => exact ⟨by simpa using ha, fun i x y hx hy => ea i x y hx (by simpa using hy)⟩
  · intro h; exact .tp (by simpa using h.1) fun i x y hx hy => h.2 i x y hx (by simpa using hy)

theorem RL.f_iff {G : Gm} {fn fn' : Fn} {a b : List AV} {a' b' : Array Value} : RV Θ G (.f fn a b) (.func fn' a' b') ↔ RFn G fn fn' ∧ RL Θ G a a'.toList ∧ RL Θ G b b'.toList := by
  constructor
  · intro h; cases h with | f h ha hb ea eb => exact ⟨h, ⟨by simpa using ha, fun i x y hx hy => ea i x y hx (by simpa using hy)⟩, ⟨by simpa using hb, fun i x y hx hy => eb i x y hx (by simpa using hy)⟩⟩
  · intro h; exact .f h.1 (by simpa using h.2.1.1) (by simpa using h.2.2.1) (fun i x y hx hy => h.2.1.2 i x y hx (by simpa using hy)) fun i x y hx hy => h.2.2.2 i x y hx (by simpa using hy)

/-- More is known. -/
def Ext (G G' : Gm) : Prop := ∀ id L, G id = some L → G' id = some L

theorem Ext.refl (G : Gm) : Ext G G := fun _ _ h => h
theorem Ext.trans {G G' G'' : Gm} (h : Ext G G') (h' : Ext G' G'') : Ext G G'' := fun id L x => h' id L (h id L x)

theorem RFn.ext {G G' : Gm} {x y : Fn} (h : RFn G x y) (e : Ext G G') : RFn G' x y := by
  cases h with
  | func f => exact .func f
  | yield h => exact .yield (e _ _ h)

theorem RV.ext {G G' : Gm} {x : AV} {y : Value} (h : RV Θ G x y) (e : Ext G G') : RV Θ G' x y := by
  induction h with
  | b x => exact .b x
  | i k n => exact .i k n
  | s s => exact .s s
  | p off h => exact .p off (e _ _ h)
  | np => exact .np
  | sle off len c h => exact .sle off len c (e _ _ h)
  | slt off len esz c h hz hc => exact .slt off len esz c (e _ _ h) hz hc
  | zs a c => exact .zs a c
  | nsl => exact .nsl
  | m h => exact .m (e _ _ h)
  | nm => exact .nm
  | f h ha hb _ _ ia ib => exact .f (h.ext e) ha hb ia ib
  | nf => exact .nf
  | ifc t _ ih => exact .ifc t ih
  | ni => exact .ni
  | ag ha _ ia => exact .ag ha ia
  | tp ha _ ia => exact .tp ha ia
  | q i => exact .q i

theorem RL.ext {G G' : Gm} {x : List AV} {y : List Value} (h : RL Θ G x y) (e : Ext G G') : RL Θ G' x y := ⟨h.1, fun i a b ha hb => (h.2 i a b ha hb).ext e⟩

theorem RV.un {G : Gm} : RV Θ G .un undef := .tp rfl fun i x y h => by simp at h

def oneV (v : Value) : Bool := v.oneCell'

/-- Opaque values are of one cell. -/
def Thin (Θ : Th) : Prop := ∀ i, (Θ i).oneCell' = true

theorem RV.one {G : Gm} {x : AV} {y : Value} (hΘ : Thin Θ) (h : RV Θ G x y) (ho : oneCell x = true) : y.oneCell' = true := by
  cases h <;> first | rfl | exact hΘ _ | (simp [oneCell] at ho)

theorem RV.cells {G : Gm} {x : AV} {y : Value} (hΘ : Thin Θ) (h : RV Θ G x y) : RL Θ G x.cells y.cells.toList := by
  cases h <;> first
    | exact RL.cons (by first | exact .b _ | exact .i _ _ | exact .s _ | exact .p _ ‹_› | exact .np | exact .sle _ _ _ ‹_› | exact .slt _ _ _ _ ‹_› ‹_› ‹_› | exact .zs _ _ | exact .nsl | exact .m ‹_› | exact .nm | exact .f ‹_› ‹_› ‹_› ‹_› ‹_› | exact .nf | exact .ifc _ ‹_› | exact .ni | exact .tp ‹_› ‹_›) RL.nil
    | exact RL.ag_iff.1 (.ag ‹_› ‹_›)
    | skip
  rename_i i
  have h1 := hΘ i
  have : (Θ i).cells = #[Θ i] := by
    cases hv : Θ i <;> first | rfl | (rw [hv] at h1; simp [Value.oneCell'] at h1)
  rw [this]
  exact RL.cons (.q i) RL.nil

/-! ### Objects -/

def AO.live : AO → Bool
  | .dead => false
  | _ => true

/-- May it be written? -/
def AO.wr : AO → Bool
  | .dead => false
  | .cells _ _ fz _ _ _ => !fz
  | _ => true

theorem AO.live_of_wr {o : AO} (h : o.wr = true) : o.live = true := by cases o <;> first | rfl | cases h

def RPend : AJ → Option Code → Prop
  | .norm, none => True
  | .exit i, some (.exit j) => i = j
  | .ret, some .ret => True
  | _, _ => False

variable (P : Program) (Θ : Th)

/-- The slots of a frame. -/
def RT (G : Gm) (n : Nat) (t : Tr AV) (c : Array Value) : Prop := c.size = n ∧ ∀ i, RV Θ G (ev t (.t i)) (c.getD i undef)

structure RLoop (G : Gm) (st : LoopState) (pend : AJ) (n : Nat) (t : Tr AV) (ps : List Nat) (asg body : AC) (df : Nat) (l : Loop) : Prop where
  st : l.state = st
  pend : RPend pend l.pending
  tmps : RT Θ G n t l.tmps
  ps : l.params.toList = ps
  asg : cCode P l.assign = asg
  body : cCode P l.body = body
  df : ∃ L, G df = some L ∧ l.defers = L.blk

structure RCells (G : Gm) (L : Loc) (n : Nat) (tail fz : Bool) (pd : Nat) (d : List AV) (t : Tr AV) (cs : Array Value) (fr : Nat × Nat) : Prop where
  size : L.base + L.size = cs.size
  known : n ≤ L.size
  exact : tail = false → L.size = n
  get : ∀ off v, cget n pd d t off = some v → ∃ c, cs[L.base + off]? = some c ∧ RV Θ G v c
  free : fz = false → ∀ off, off < L.size → ¬ (fr.1 ≤ L.base + off ∧ L.base + off < fr.2)

structure REntry (G : Gm) (e : AV × AV × Nat) (c : MapEntry) : Prop where
  key : RV Θ G e.1 c.key
  val : RV Θ G e.2.1 c.val
  born : c.born = e.2.2

def REs (G : Gm) (es : List (AV × AV × Nat)) (cs : List MapEntry) : Prop := es.length = cs.length ∧ ∀ (i : Nat) e c, es[i]? = some e → cs[i]? = some c → REntry Θ G e c

def RO (G : Gm) (x : Option Obj) (L : Loc) : AO → Prop
  | .cells n tail fz pd d t => ∃ cs ty fr, x = some (.cells cs ty fr) ∧ RCells Θ G L n tail fz pd d t cs fr
  | .dead => True
  | .map es clock => ∃ cs, x = some (.map cs clock) ∧ REs Θ G es cs.toList
  | .sit s pos => L.base = 0 ∧ ∃ b : ByteArray, x = some (.stringIter b pos) ∧ s = (b.data.toList.map UInt8.toNat).drop pos ∧ pos ≤ b.size
  | .mit none since seen stepped => L.base = 0 ∧ x = some (.mapIter none since seen.toArray stepped)
  | .mit (some m) since seen stepped => L.base = 0 ∧ ∃ Lm, G m = some Lm ∧ x = some (.mapIter (some Lm.blk) since seen.toArray stepped)
  | .loop st pend n t ps asg body df => ∃ l, x = some (.loop l) ∧ RLoop P Θ G st pend n t ps asg body df l
  | .dfr taken => x = some (.deferred (if taken then none else some []))

variable {P} {Θ}

theorem RT.ext {G G' : Gm} {n : Nat} {t : Tr AV} {c : Array Value} (h : RT Θ G n t c) (e : Ext G G') : RT Θ G' n t c := ⟨h.1, fun i => (h.2 i).ext e⟩

theorem REs.ext {G G' : Gm} {es : List (AV × AV × Nat)} {cs : List MapEntry} (h : REs Θ G es cs) (e : Ext G G') : REs Θ G' es cs :=
  ⟨h.1, fun i a b ha hb => let x := h.2 i a b ha hb; ⟨x.key.ext e, x.val.ext e, x.born⟩⟩

theorem RO.ext {G G' : Gm} {x : Option Obj} {L : Loc} {o : AO} (h : RO P Θ G x L o) (e : Ext G G') : RO P Θ G' x L o := by
  cases o with
  | cells n tail fz pd d t =>
    obtain ⟨cs, ty, fr, hx, hc⟩ := h
    exact ⟨cs, ty, fr, hx, hc.size, hc.known, hc.exact, fun off v hv => let ⟨c, h1, h2⟩ := hc.get off v hv; ⟨c, h1, h2.ext e⟩, hc.free⟩
  | dead => trivial
  | map es clock => obtain ⟨cs, hx, hc⟩ := h; exact ⟨cs, hx, hc.ext e⟩
  | sit s pos => exact h
  | mit m since seen stepped =>
    cases m with
    | none => exact h
    | some m => obtain ⟨h0, Lm, h1, h2⟩ := h; exact ⟨h0, Lm, e _ _ h1, h2⟩
  | loop st pend n t ps asg body df =>
    obtain ⟨l, hx, hl⟩ := h
    obtain ⟨Ld, h1, h2⟩ := hl.df
    exact ⟨l, hx, hl.st, hl.pend, hl.tmps.ext e, hl.ps, hl.asg, hl.body, ⟨Ld, e _ _ h1, h2⟩⟩
  | dfr taken => exact h

/-! ### Heaps -/

/-- A block that the machine has under its hands. -/
def Live (G : Gm) (h : AH) (b : Nat) : Prop := ∃ id o L, h.o.get id = some o ∧ o.wr = true ∧ G id = some L ∧ L.blk = b

/-- A block that it knows. -/
def LiveA (G : Gm) (h : AH) (b : Nat) : Prop := ∃ id o L, h.o.get id = some o ∧ o.live = true ∧ G id = some L ∧ L.blk = b

/-- What is not under the machine's hands stays. -/
structure Stay (w w' : World) (live : Nat → Prop) : Prop where
  size : w.heap.size ≤ w'.heap.size
  heap : ∀ b, b < w.heap.size → ¬ live b → w'.heap[b]? = w.heap[b]?
  os : w'.os = w.os
  output : w'.output = w.output
  tape : w'.tape = w.tape

theorem Stay.refl (w : World) (p : Nat → Prop) : Stay w w p := ⟨Nat.le_refl _, fun _ _ _ => rfl, rfl, rfl, rfl⟩

/-- All that was there is as it was. -/
abbrev Fix (w w' : World) : Prop := Stay w w' fun _ => False

theorem Fix.step {W w w' : World} {p : Nat → Prop} (f : Fix W w) (s : Stay w w' p) (hp : ∀ b, p b → W.heap.size ≤ b) : Fix W w' :=
  ⟨Nat.le_trans f.size s.size, fun b hb _ => (s.heap b (Nat.lt_of_lt_of_le hb f.size) fun h => absurd (hp b h) (Nat.not_le.2 hb)).trans (f.heap b hb id), s.os.trans f.os, s.output.trans f.output, s.tape.trans f.tape⟩

structure RH (P : Program) (Θ : Th) (G : Gm) (h : AH) (w : World) : Prop where
  obj : ∀ id o, h.o.get id = some o → o.live = true → ∃ L, G id = some L ∧ RO P Θ G (w.heap[L.blk]?) L o
  inj : ∀ i j o o' L L', h.o.get i = some o → h.o.get j = some o' → o.live = true → o'.live = true → (o.wr = true ∨ o'.wr = true) → G i = some L → G j = some L' → L.blk = L'.blk → i = j
  bound : ∀ id L, G id = some L → id < h.nx
  fresh : ∀ id, h.nx ≤ id → h.o.get id = none
  fix : Fix Θ.W w
  high : ∀ b, Live G h b → Θ.W.heap.size ≤ b

structure Next (P : Program) (Θ : Th) (G : Gm) (h : AH) (w : World) (G' : Gm) (h' : AH) (w' : World) : Prop where
  ext : Ext G G'
  rh : RH P Θ G' h' w'
  stay : Stay w w' (Live G h)
  live : ∀ b, Live G' h' b → Live G h b ∨ w.heap.size ≤ b
  liveA : ∀ b, LiveA G' h' b → LiveA G h b ∨ w.heap.size ≤ b
  mono : h.nx ≤ h'.nx
  old : ∀ i, i < h.nx → G' i = G i

theorem Next.refl {G : Gm} {h : AH} {w : World} (r : RH P Θ G h w) : Next P Θ G h w G h w := ⟨.refl G, r, .refl w _, fun _ h => .inl h, fun _ h => .inl h, Nat.le_refl _, fun _ _ => rfl⟩

theorem Next.trans {G G' G'' : Gm} {h h' h'' : AH} {w w' w'' : World} (a : Next P Θ G h w G' h' w') (b : Next P Θ G' h' w' G'' h'' w'') : Next P Θ G h w G'' h'' w'' := by
  refine ⟨a.ext.trans b.ext, b.rh, ⟨Nat.le_trans a.stay.size b.stay.size, fun x hx hl => ?_, b.stay.os.trans a.stay.os, b.stay.output.trans a.stay.output, b.stay.tape.trans a.stay.tape⟩, fun x hx => ?_, fun x hx => ?_, Nat.le_trans a.mono b.mono, fun i hi => (b.old i (Nat.lt_of_lt_of_le hi a.mono)).trans (a.old i hi)⟩
  · rw [b.stay.heap x (Nat.lt_of_lt_of_le hx a.stay.size) (fun hl' => (a.live x hl').elim hl fun h => by omega), a.stay.heap x hx hl]
  · rcases b.live x hx with h | h
    · exact a.live x h
    · exact .inr (Nat.le_trans a.stay.size h)
  · rcases b.liveA x hx with h | h
    · exact a.liveA x h
    · exact .inr (Nat.le_trans a.stay.size h)

/-- The two last facts of a heap come of the others. -/
theorem Next.of {G G' : Gm} {h h' : AH} {w w' : World} (r : RH P Θ G h w) (ext : Ext G G') (rh : Fix Θ.W w' → (∀ b, Live G' h' b → Θ.W.heap.size ≤ b) → RH P Θ G' h' w') (stay : Stay w w' (Live G h))
    (live : (∀ b, Live G' h' b → Live G h b ∨ w.heap.size ≤ b) ∧ ∀ b, LiveA G' h' b → LiveA G h b ∨ w.heap.size ≤ b) (mono : h.nx ≤ h'.nx) (old : ∀ i, i < h.nx → G' i = G i) : Next P Θ G h w G' h' w' :=
  ⟨ext, rh (r.fix.step stay r.high) fun b hb => (live.1 b hb).elim (r.high b) fun h => Nat.le_trans r.fix.size h, stay, live.1, live.2, mono, old⟩

theorem RH.blk_lt {G : Gm} {h : AH} {w : World} (r : RH P Θ G h w) {id : Nat} {o : AO} {L : Loc} (ho : h.o.get id = some o) (hl : o.live = true) (hL : G id = some L) : L.blk < w.heap.size := by
  obtain ⟨L', h1, h2⟩ := r.obj id o ho hl
  rw [hL] at h1; cases h1
  rcases Nat.lt_or_ge L.blk w.heap.size with h | h
  · exact h
  · rw [Array.getElem?_eq_none h] at h2
    cases o with
    | cells n tail fz pd d t => obtain ⟨_, _, _, hx, _⟩ := h2; cases hx
    | dead => cases hl
    | map es c => obtain ⟨_, hx, _⟩ := h2; cases hx
    | sit s p => obtain ⟨_, _, hx, _⟩ := h2; cases hx
    | mit m a b c => cases m with
      | none => obtain ⟨_, hx⟩ := h2; cases hx
      | some m => obtain ⟨_, _, _, hx⟩ := h2; cases hx
    | loop => obtain ⟨_, hx, _⟩ := h2; cases hx
    | dfr t => cases h2

/-- One draw more. -/
theorem RH.drew {G : Gm} {h : AH} {w : World} (r : RH P Θ G h w) : RH P Θ G h w.drew := ⟨r.obj, r.inj, r.bound, r.fresh, ⟨r.fix.size, r.fix.heap, r.fix.os, r.fix.output, r.fix.tape⟩, r.high⟩

theorem Next.drew {G : Gm} {h : AH} {w : World} (r : RH P Θ G h w) : Next P Θ G h w G h w.drew := ⟨.refl G, r.drew, ⟨Nat.le_refl _, fun _ _ _ => rfl, rfl, rfl, rfl⟩, fun _ h => .inl h, fun _ h => .inl h, Nat.le_refl _, fun _ _ => rfl⟩

def Gm.put (G : Gm) (id : Nat) (L : Loc) : Gm := fun i => if i = id then some L else G i

theorem RH.none_nx {G : Gm} {h : AH} {w : World} (r : RH P Θ G h w) : G h.nx = none := by
  cases hg : G h.nx with
  | none => rfl
  | some L => exact absurd (r.bound _ _ hg) (Nat.lt_irrefl _)

theorem Ext.put {G : Gm} {h : AH} {w : World} (r : RH P Θ G h w) (L : Loc) : Ext G (G.put h.nx L) := fun id L' hl => by
  unfold Gm.put
  rw [if_neg (fun e => by have := r.none_nx; rw [← e, hl] at this; cases this)]
  exact hl

/-- A new object. -/
theorem Next.new {G : Gm} {h : AH} {w : World} (r : RH P Θ G h w) (o : AO) (ob : Obj) (size : Nat)
    (ho : RO P Θ (G.put h.nx ⟨w.heap.size, 0, size⟩) (some ob) ⟨w.heap.size, 0, size⟩ o) :
    Next P Θ G h w (G.put h.nx ⟨w.heap.size, 0, size⟩) ⟨h.nx + 1, h.o.set h.nx o⟩ (w.alloc ob) := by
  have hext := Ext.put r ⟨w.heap.size, 0, size⟩
  have hnew : (w.alloc ob).heap[w.heap.size]? = some ob := by show (w.heap.push ob)[w.heap.size]? = _; simp
  have hold : ∀ b, b < w.heap.size → (w.alloc ob).heap[b]? = w.heap[b]? := fun b hb => by
    show (w.heap.push ob)[b]? = _
    rw [Array.getElem?_push, if_neg (Nat.ne_of_lt hb)]
  have hput : ∀ id, id ≠ h.nx → (G.put h.nx ⟨w.heap.size, 0, size⟩) id = G id := fun id e => if_neg e
  refine .of r hext (fun hfx hhi => ⟨fun id x hx hlx => ?_, fun i j x y L L' hx hy lx ly hwr hL hL' e => ?_, fun id L hL => ?_, fun id hid => ?_, hfx, hhi⟩) ⟨by simp, fun b hb _ => hold b hb, rfl, rfl, rfl⟩ ⟨fun b hb => ?_, fun b hb => ?_⟩ (Nat.le_succ _) fun i hi => if_neg (Nat.ne_of_lt hi)
  · show ∃ L, _
    simp only [Tr.get_set] at hx
    by_cases e : id = h.nx
    · rw [if_pos e] at hx; cases hx; subst e
      exact ⟨⟨w.heap.size, 0, size⟩, if_pos rfl, by rw [hnew]; exact ho⟩
    · rw [if_neg e] at hx
      obtain ⟨L, h1, h2⟩ := r.obj id x hx hlx
      refine ⟨L, (hput id e).trans h1, ?_⟩
      rw [hold L.blk (r.blk_lt hx hlx h1)]
      exact h2.ext hext
  · simp only [Tr.get_set] at hx hy
    by_cases e1 : i = h.nx <;> by_cases e2 : j = h.nx
    · rw [e1, e2]
    · rw [if_neg e2] at hy
      have h2 : G j = some L' := (hput j e2).symm.trans hL'
      have h3 : L = ⟨w.heap.size, 0, size⟩ := by
        have : (G.put h.nx ⟨w.heap.size, 0, size⟩) i = some ⟨w.heap.size, 0, size⟩ := if_pos e1
        rw [this] at hL; cases hL; rfl
      have := r.blk_lt hy ly h2
      rw [← e, h3] at this
      exact absurd this (Nat.lt_irrefl _)
    · rw [if_neg e1] at hx
      have h2 : G i = some L := (hput i e1).symm.trans hL
      have h3 : L' = ⟨w.heap.size, 0, size⟩ := by
        have : (G.put h.nx ⟨w.heap.size, 0, size⟩) j = some ⟨w.heap.size, 0, size⟩ := if_pos e2
        rw [this] at hL'; cases hL'; rfl
      have := r.blk_lt hx lx h2
      rw [e, h3] at this
      exact absurd this (Nat.lt_irrefl _)
    · rw [if_neg e1] at hx; rw [if_neg e2] at hy
      exact r.inj i j x y L L' hx hy lx ly hwr ((hput i e1).symm.trans hL) ((hput j e2).symm.trans hL') e
  · show id < h.nx + 1
    by_cases e : id = h.nx
    · omega
    · have := r.bound id L ((hput id e).symm.trans hL); omega
  · show (h.o.set h.nx o).get id = none
    have hid' : h.nx + 1 ≤ id := hid
    rw [Tr.get_set, if_neg (by omega)]
    exact r.fresh id (by omega)
  · obtain ⟨id, x, L, hx, hlx, hL, rfl⟩ := hb
    simp only [Tr.get_set] at hx
    by_cases e : id = h.nx
    · have : (G.put h.nx ⟨w.heap.size, 0, size⟩) id = some ⟨w.heap.size, 0, size⟩ := if_pos e
      rw [this] at hL; cases hL
      exact .inr (Nat.le_refl _)
    · rw [if_neg e] at hx
      exact .inl ⟨id, x, L, hx, hlx, (hput id e).symm.trans hL, rfl⟩
  · obtain ⟨id, x, L, hx, hlx, hL, rfl⟩ := hb
    simp only [Tr.get_set] at hx
    by_cases e : id = h.nx
    · have : (G.put h.nx ⟨w.heap.size, 0, size⟩) id = some ⟨w.heap.size, 0, size⟩ := if_pos e
      rw [this] at hL; cases hL
      exact .inr (Nat.le_refl _)
    · rw [if_neg e] at hx
      exact .inl ⟨id, x, L, hx, hlx, (hput id e).symm.trans hL, rfl⟩

/-- A block is another one. -/
def wput (w : World) (b : Nat) (o : Obj) : World := { w with heap := w.heap.setIfInBounds b o }

theorem wput_same (w : World) (b : Nat) (o : Obj) (h : b < w.heap.size) : (wput w b o).heap[b]? = some o := by simp [wput, h]
theorem wput_other (w : World) (b c : Nat) (o : Obj) (h : b ≠ c) : (wput w b o).heap[c]? = w.heap[c]? := by simp [wput, h]

theorem Next.put {G : Gm} {h : AH} {w : World} (r : RH P Θ G h w) {id : Nat} {o o' : AO} {L : Loc} {ob : Obj} (ho : h.o.get id = some o) (hl : o.wr = true) (hL : G id = some L)
    (hr : RO P Θ G (some ob) L o') : Next P Θ G h w G ⟨h.nx, h.o.set id o'⟩ (wput w L.blk ob) := by
  have hlv := AO.live_of_wr hl
  have hlt := r.blk_lt ho hlv hL
  refine .of r (.refl G) (fun hfx hhi => ⟨fun i x hx hlx => ?_, fun i j x y Li Lj hx hy lx ly hwr hLi hLj e => ?_, r.bound, fun i hi => ?_, hfx, hhi⟩) ⟨by simp [wput], fun b hb hn => ?_, rfl, rfl, rfl⟩ ⟨fun b hb => ?_, fun b hb => ?_⟩ (Nat.le_refl _) fun _ _ => rfl
  · simp only [Tr.get_set] at hx
    by_cases e : i = id
    · rw [if_pos e] at hx; cases hx; subst e
      exact ⟨L, hL, by rw [wput_same w _ _ hlt]; exact hr⟩
    · rw [if_neg e] at hx
      obtain ⟨Li, h1, h2⟩ := r.obj i x hx hlx
      refine ⟨Li, h1, ?_⟩
      rw [wput_other w _ _ _ (fun eb => e (r.inj i id x o Li L hx ho hlx hlv (.inr hl) h1 hL eb.symm))]
      exact h2
  · simp only [Tr.get_set] at hx hy
    have hx' : ∃ x', h.o.get i = some x' ∧ x'.live = true ∧ (x'.wr = true ∨ x' = x) := by
      by_cases ei : i = id
      · exact ⟨o, ei ▸ ho, hlv, .inl hl⟩
      · rw [if_neg ei] at hx; exact ⟨x, hx, lx, .inr rfl⟩
    have hy' : ∃ y', h.o.get j = some y' ∧ y'.live = true ∧ (y'.wr = true ∨ y' = y) := by
      by_cases ej : j = id
      · exact ⟨o, ej ▸ ho, hlv, .inl hl⟩
      · rw [if_neg ej] at hy; exact ⟨y, hy, ly, .inr rfl⟩
    obtain ⟨x', a1, a2, a3⟩ := hx'
    obtain ⟨y', b1, b2, b3⟩ := hy'
    refine r.inj i j x' y' Li Lj a1 b1 a2 b2 ?_ hLi hLj e
    rcases a3 with h | rfl
    · exact .inl h
    · rcases b3 with h | rfl
      · exact .inr h
      · exact hwr
  · have hi' : h.nx ≤ i := hi
    show (h.o.set id o').get i = none
    have : id < h.nx := r.bound id L hL
    rw [Tr.get_set, if_neg (by omega)]
    exact r.fresh i hi'
  · exact wput_other w _ _ _ fun e => hn ⟨id, o, L, ho, hl, hL, e⟩
  · obtain ⟨i, x, Li, hx, hlx, hLi, rfl⟩ := hb
    simp only [Tr.get_set] at hx
    by_cases e : i = id
    · subst e; rw [hL] at hLi; cases hLi; exact .inl ⟨i, o, L, ho, hl, hL, rfl⟩
    · rw [if_neg e] at hx; exact .inl ⟨i, x, Li, hx, hlx, hLi, rfl⟩
  · obtain ⟨i, x, Li, hx, hlx, hLi, rfl⟩ := hb
    simp only [Tr.get_set] at hx
    by_cases e : i = id
    · subst e; rw [hL] at hLi; cases hLi; exact .inl ⟨i, o, L, ho, hlv, hL, rfl⟩
    · rw [if_neg e] at hx; exact .inl ⟨i, x, Li, hx, hlx, hLi, rfl⟩

/-- A block is not used any more. -/
theorem Next.kill {G : Gm} {h : AH} {w : World} (r : RH P Θ G h w) {id : Nat} (hid : id < h.nx) : Next P Θ G h w G ⟨h.nx, h.o.set id .dead⟩ w := by
  refine .of r (.refl G) (fun hfx hhi => ⟨fun i x hx hlx => ?_, fun i j x y Li Lj hx hy lx ly hwr hLi hLj e => ?_, r.bound, fun i hi => ?_, hfx, hhi⟩) (.refl w _) ⟨fun b hb => ?_, fun b hb => ?_⟩ (Nat.le_refl _) fun _ _ => rfl
  · simp only [Tr.get_set] at hx
    by_cases e : i = id
    · rw [if_pos e] at hx; cases hx; cases hlx
    · rw [if_neg e] at hx; exact r.obj i x hx hlx
  · simp only [Tr.get_set] at hx hy
    by_cases ei : i = id
    · rw [if_pos ei] at hx; cases hx; cases lx
    · by_cases ej : j = id
      · rw [if_pos ej] at hy; cases hy; cases ly
      · rw [if_neg ei] at hx; rw [if_neg ej] at hy; exact r.inj i j x y Li Lj hx hy lx ly hwr hLi hLj e
  · show (h.o.set id .dead).get i = none
    have hi' : h.nx ≤ i := hi
    rw [Tr.get_set, if_neg (by omega)]
    exact r.fresh i hi'
  · obtain ⟨i, x, Li, hx, hlx, hLi, rfl⟩ := hb
    simp only [Tr.get_set] at hx
    by_cases e : i = id
    · rw [if_pos e] at hx; cases hx; cases hlx
    · rw [if_neg e] at hx; exact .inl ⟨i, x, Li, hx, hlx, hLi, rfl⟩
  · obtain ⟨i, x, Li, hx, hlx, hLi, rfl⟩ := hb
    simp only [Tr.get_set] at hx
    by_cases e : i = id
    · rw [if_pos e] at hx; cases hx; cases hlx
    · rw [if_neg e] at hx; exact .inl ⟨i, x, Li, hx, hlx, hLi, rfl⟩

end Go.Proofs.YtmlfcopllfdjfaaGreat.Am
