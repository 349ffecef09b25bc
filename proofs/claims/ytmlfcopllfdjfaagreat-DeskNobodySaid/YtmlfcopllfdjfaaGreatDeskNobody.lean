/- DeskNobody: whatever the ask, the mail and the fresh number, a nil desk and a desk at a far place answer nothing and keep what they hold, and a desk of the law's own lives. No condition. -/
import Derived.Test.YtmlfcopllfdjfaaGreatRows
import Derived.Test.YtmlfcopllfdjfaaGreatD9
import Derived.Test.YtmlfcopllfdjfaaGreatDnK0
import Derived.Test.YtmlfcopllfdjfaaGreatDeskLives
import Derived.ProofKit
namespace Go.Proofs.YtmlfcopllfdjfaaGreat.Am

theorem aget_items : ∀ (k : List (List Nat × Int)) (i : Nat) (x : List Nat × Int), k[i]? = some x → agetI (k.map fun x => [AV.s x.1, AV.i .i64 x.2]).flatten (i * 2) = some (.s x.1) ∧ agetI (k.map fun x => [AV.s x.1, AV.i .i64 x.2]).flatten (i * 2 + 1) = some (.i .i64 x.2)
  | [], i, x, h => by simp at h
  | y :: k, 0, x, h => by
    simp at h; subst h
    exact ⟨rfl, rfl⟩
  | y :: k, i + 1, x, h => by
    have := aget_items k i x (by simpa using h)
    rw [show (i + 1) * 2 = i * 2 + 2 by omega]
    exact this

def itemTy : Ty := .cons .s (.cons .i .nil)

theorem rows_items {h : AH} : ∀ {Ls : List (List AV)}, (∀ L ∈ Ls, Val h itemTy L) → ∃ k : List (List Nat × Int), Ls = k.map fun x => [AV.s x.1, AV.i .i64 x.2]
  | [], _ => ⟨[], rfl⟩
  | L :: Ls, hv => by
    obtain ⟨k, rfl⟩ := rows_items fun M hM => hv M (.tail _ hM)
    obtain ⟨L1, L2, rfl, ⟨l, rfl, _⟩, L3, L4, rfl, ⟨x, rfl, _⟩, h4⟩ := hv L (.head _)
    have h4 : L4 = [] := h4
    subst h4
    exact ⟨(l, x) :: k, rfl⟩

theorem flat_len : ∀ (k : List (List Nat × Int)), (k.map fun x => [AV.s x.1, AV.i .i64 x.2]).flatten.length = k.length * 2
  | [] => rfl
  | x :: k => by
    simp only [List.map_cons, List.flatten_cons, List.length_append, List.length_cons, List.length_nil]
    rw [flat_len k]; omega

theorem items_of_val {h : AH} (hfr : ∀ i, h.nx ≤ i → h.o.get i = none) {v : AV} (s : Val h (.sl itemTy) [v]) : ∃ k : List (List Nat × Int), k.length ≤ 9223372036854775807 ∧ Items h v k := by
  rcases s with s | s | ⟨id, len, Ls, s, h1, h2, h3, h4⟩
  · cases s; exact ⟨[], by simp, .inl ⟨rfl, rfl⟩⟩
  · cases s; exact ⟨[], by simp, .inr (.inl ⟨rfl, rfl⟩)⟩
  · cases s
    obtain ⟨k, rfl⟩ := rows_items h4
    simp only [List.length_map] at h1 h2 ⊢
    have hl : (k.take len).length = len := by rw [List.length_take]; omega
    refine ⟨k.take len, by rw [hl]; unfold maxLen at h2; omega, .inr (.inr ⟨id, 0, .ex k.length, by rw [hl], ?_, fun i x hx => ?_⟩)⟩
    · rcases Nat.lt_or_ge id h.nx with h | h
      · exact h
      · rw [hfr id h] at h3; cases h3
    · have hil : i < len := by
        rcases Nat.lt_or_ge i len with h | h
        · exact h
        · rw [List.getElem?_eq_none (by omega)] at hx; cases hx
      rw [List.getElem?_take, if_pos hil] at hx
      obtain ⟨g1, g2⟩ := aget_items k i x hx
      have hn := flat_len k
      rw [h3]
      generalize (k.map fun x => [AV.s x.1, AV.i .i64 x.2]).flatten = D at g1 g2 hn
      have a1 : i * 2 < D.length := by omega
      have a2 : i * 2 + 1 < D.length := by omega
      have hne : ∀ d : List AV, d = D → (match d with | [] => (none : Option AV) | d => agetI d (i * 2)) = some (.s x.1) ∧ (match d with | [] => (none : Option AV) | d => agetI d (i * 2 + 1)) = some (.i .i64 x.2) := by
        rintro d rfl
        cases d with
        | nil => simp at a1
        | cons a d => exact ⟨g1, g2⟩
      have e1 : cget D.length D.length D .e (i * 2) = some (.s x.1) := by
        simp only [cget, nblt, decide_eq_true a1, get_e, Nat.mod_eq_of_lt a1]; exact (hne D rfl).1
      have e2 : cget D.length D.length D .e (i * 2 + 1) = some (.i .i64 x.2) := by
        simp only [cget, nblt, decide_eq_true a2, get_e, Nat.mod_eq_of_lt a2]; exact (hne D rfl).2
      simp only [hloadO, cgets, Nat.zero_add, e1, e2]

def askTy : Ty := .cons .i (.cons .i (.cons .i (.cons .i (.cons .i (.cons .i (.cons .i (.cons .s (.cons (.sl itemTy) .nil))))))))
def answerTy : Ty := .cons .i (.cons .i (.cons .i (.cons .i .nil)))
def mailTy : Ty := .cons .i (.cons .i (.cons (.sl itemTy) (.cons askTy (.cons answerTy .nil))))

theorem val_i {h : AH} {L : List AV} (s : Val h .i L) : ∃ x, L = [.i .i64 x] := let ⟨x, e, _⟩ := s; ⟨x, e⟩
theorem val_s {h : AH} {L : List AV} (s : Val h .s L) : ∃ x, L = [.s x] := let ⟨x, e, _⟩ := s; ⟨x, e⟩
theorem val_sl {h : AH} {e : Ty} {L : List AV} (s : Val h (.sl e) L) : ∃ v, L = [v] ∧ Val h (.sl e) [v] := by
  have s' := s
  rcases s with s | s | ⟨id, len, Ls, s, _⟩ <;> exact ⟨_, s, s ▸ s'⟩

theorem val_ask {h : AH} {L : List AV} (s : Val h askTy L) : ∃ a1 a2 a3 a4 a5 a6 a7 g1 l1, L = [.i .i64 a1, .i .i64 a2, .i .i64 a3, .i .i64 a4, .i .i64 a5, .i .i64 a6, .i .i64 a7, .s g1, l1] ∧ Val h (.sl itemTy) [l1] := by
  obtain ⟨_, _, rfl, h1, _, _, rfl, h2, _, _, rfl, h3, _, _, rfl, h4, _, _, rfl, h5, _, _, rfl, h6, _, _, rfl, h7, _, _, rfl, h8, _, L', rfl, h9, e⟩ := s
  have e : L' = [] := e
  subst e
  obtain ⟨a1, rfl⟩ := val_i h1; obtain ⟨a2, rfl⟩ := val_i h2; obtain ⟨a3, rfl⟩ := val_i h3; obtain ⟨a4, rfl⟩ := val_i h4; obtain ⟨a5, rfl⟩ := val_i h5; obtain ⟨a6, rfl⟩ := val_i h6; obtain ⟨a7, rfl⟩ := val_i h7
  obtain ⟨g1, rfl⟩ := val_s h8
  obtain ⟨l1, rfl, h9⟩ := val_sl h9
  exact ⟨a1, a2, a3, a4, a5, a6, a7, g1, l1, rfl, h9⟩

theorem law_args (h : AH) (hfr : ∀ i, h.nx ≤ i → h.o.get i = none) {a m f : AV} (ha : ArgOf h askTy a) (hm : ArgOf h mailTy m) (hf : ArgOf h .i f) : wF E 4 [a, m, f] h fun v _ => v = .b true := by
  obtain ⟨La, rfl, ha⟩ := ha
  obtain ⟨Lm, rfl, hm⟩ := hm
  obtain ⟨fr, hf⟩ := val_i (h := h) hf
  cases hf
  obtain ⟨a1, a2, a3, a4, a5, a6, a7, g1, l1, rfl, h1⟩ := val_ask ha
  obtain ⟨_, _, rfl, h2, _, _, rfl, h3, _, _, rfl, h4, _, _, rfl, h5, _, L', rfl, h6, e⟩ := hm
  have e : L' = [] := e
  subst e
  obtain ⟨m1, rfl⟩ := val_i h2; obtain ⟨m2, rfl⟩ := val_i h3
  obtain ⟨l2, rfl, h4⟩ := val_sl h4
  obtain ⟨b1, b2, b3, b4, b5, b6, b7, g2, l3, rfl, h7⟩ := val_ask h5
  obtain ⟨_, _, rfl, y1, _, _, rfl, y2, _, _, rfl, y3, _, L', rfl, y4, e⟩ := h6
  have e : L' = [] := e
  subst e
  obtain ⟨y1, rfl⟩ := val_i y1; obtain ⟨y2, rfl⟩ := val_i y2; obtain ⟨y3, rfl⟩ := val_i y3; obtain ⟨y4, rfl⟩ := val_i y4
  obtain ⟨k1, q1, i1⟩ := items_of_val hfr h1
  obtain ⟨k2, q2, i2⟩ := items_of_val hfr h4
  obtain ⟨k3, q3, i3⟩ := items_of_val hfr h7
  exact law_spec _ _ _ _ _ _ _ _ _ _ _ _ _ _ _ _ _ _ _ _ _ _ _ _ _ _ k1 k2 k3 q1 q2 q3 h i1 i2 i3
end Go.Proofs.YtmlfcopllfdjfaaGreat.Am

namespace Go.Proofs.YtmlfcopllfdjfaaGreat
open Go.ChangeShapes Go.WideShapes Go.ChangeAt Go.RowKit

theorem dn_own : ownKnob Tryz.prog.godebug = none := by kernel_rfl
theorem dn_mix : Tryz.prog.follows .mixedOrders = true := by kernel_rfl

theorem dn_env (Θ : Am.Th) : Am.EnvOK Tryz.prog Θ Am.E :=
  ⟨Am.Dn.env_ok, Am.closedExt_ok Am.Dn.env_ok dn_mix (fun x hx => by
    cases List.mem_singleton.1 hx
    exact ⟨1000, rfl, Am.desk_lives⟩), ⟨(fun _ _ e => by cases e), (fun _ _ _ e => by cases e)⟩⟩

theorem dn_ask : Am.hasTy Tryz.prog 6 24 Am.askTy = true := by kernel_rfl
theorem dn_mail : Am.hasTy Tryz.prog 6 29 Am.mailTy = true := by kernel_rfl
theorem dn_int : Am.hasTy Tryz.prog 6 3 .i = true := by kernel_rfl

theorem dn_params : Tryz.f4.params = #[24, 29, 3] := by kernel_rfl

theorem dn_three {l : List Am.AV} (h : l.length = 3) : ∃ a b c, l = [a, b, c] := by
  match l, h with
  | [a, b, c], _ => exact ⟨a, b, c, rfl⟩

theorem dn_any {H : Type} {enc : TypeId × Value → H} {P : Program} {fn : Func} (hp : fn.params = #[24, 29, 3]) (henv : ∀ Θ, Am.EnvOK P Θ Am.E) (hmix : P.follows .mixedOrders = true)
    (hl : fn.params.toList.all (Am.plainT P 6) = true) (t0 : Am.hasTy P 6 24 Am.askTy = true) (t1 : Am.hasTy P 6 29 Am.mailTy = true) (t2 : Am.hasTy P 6 3 .i = true) : Am.CallsTrue enc P 4 fn := by
  refine Am.callsTrue_of_wF (env := Am.E) 6 henv hmix hl (fun h avs hfr hn hs => ?_)
  rw [hp] at hn hs
  obtain ⟨a, m, f, rfl⟩ := dn_three hn
  exact Am.law_args h hfr (Am.arg_of_sh t0 (hs 0 24 a rfl rfl)) (Am.arg_of_sh t1 (hs 1 29 m rfl rfl)) (Am.arg_of_sh t2 (hs 2 3 f rfl rfl))

theorem dn_plain : Tryz.f4.params.toList.all (Am.plainT Tryz.prog 6) = true := by kernel_rfl

theorem dn_calls (H : Type) (enc : TypeId × Value → H) : Am.CallsTrue enc Tryz.prog 4 Tryz.f4 :=
  dn_any dn_params dn_env dn_mix dn_plain dn_ask dn_mail dn_int

set_option maxRecDepth 100000 in
theorem deskNobody_lifted (os : Os) (started : os.Started) (H : Type) (enc : TypeId × Value → H) :
    ReturnsInHanded {} Tryz.checked os 4 .any (Rows.deskNobodySpec.pre6 enc Tryz.prog Tryz.f4 Rows.deskNobodyRow.domain false) (Rows.deskNobodySpec.post enc Tryz.prog Tryz.f4 false true false false) := by
  refine Am.lifted_true (C := Tryz.checked) (tb := 4) dn_own started (by kernel_rfl) Tryz.func4 (by kernel_rfl) (by kernel_rfl) (by kernel_rfl) (by kernel_rfl) rfl (fun ds hd => ?_) ?_ (dn_calls H enc)
  · match ds, hd with
    | [a, b, c], _ => rfl
  · exact ChangeSpec.witness6 (enc := enc) (C := Tryz.checked) false ⟨#[], #[.agg #[.int .i64 0, .int .i64 0, .int .i64 0, .int .i64 0, .int .i64 0, .int .i64 0, .int .i64 0, .string "".toUTF8, .slice none 0 0], .agg #[.int .i64 0, .int .i64 0, .slice none 0 0, .int .i64 0, .int .i64 0, .int .i64 0, .int .i64 0, .int .i64 0, .int .i64 0, .int .i64 0, .string "".toUTF8, .slice none 0 0, .int .i64 0, .int .i64 0, .int .i64 0, .int .i64 0], .int .i64 0], []⟩ 8 (by kernel_rfl) (by kernel_rfl) (by kernel_rfl) (by kernel_rfl)

theorem deskNobody_holds : Rows.DeskNobodySaid :=
  OpenClaim.holds_of_wide 4 Tryz.f4 rfl rfl rfl rfl rfl rfl rfl ⟨rfl, rfl, rfl, rfl, rfl⟩ rfl rfl rfl rfl rfl (by kernel_rfl) Tryz.func4 (by kernel_rfl)
    (of_decide_eq_true (by kernel_rfl)) (by unfold Func.isWrapper; first | (rw [if_pos (by decide +kernel)]; kernel_rfl) | (rw [if_neg (by decide +kernel)]; exact ⟨rfl, rfl⟩))
    (fun os started H enc _ => deskNobody_lifted os started H enc)
#print axioms deskNobody_holds

end Go.Proofs.YtmlfcopllfdjfaaGreat
