/- An abstract machine for the program's code, and that it is sound: part Am14. -/
import Derived.Test.YtmlfcopllfdjfaaGreatAm13
import Derived.KernelRfl
import Derived.Lib.TrimUEq
namespace Go.Proofs.YtmlfcopllfdjfaaGreat.Am
variable {P : Program} {Θ : Th} {G : Gm}

theorem REs.filter {p : AV × AV × Nat → Bool} {q : MapEntry → Bool} (hpq : ∀ e c, REntry Θ G e c → p e = q c) : ∀ {es : List (AV × AV × Nat)} {cs : List MapEntry}, REs Θ G es cs → REs Θ G (es.filter p) (cs.filter q)
  | [], cs, h => by rw [h.nil_inv]; exact REs.nil
  | e :: es, cs, h => by
    obtain ⟨c, cs', rfl, hc, h'⟩ := h.cons_inv
    simp only [List.filter_cons, hpq e c hc]
    split
    · exact REs.cons hc (REs.filter hpq h')
    · exact REs.filter hpq h'

theorem REs.all {p : AV × AV × Nat → Bool} {q : MapEntry → Bool} (hpq : ∀ e c, REntry Θ G e c → p e = q c) : ∀ {es : List (AV × AV × Nat)} {cs : List MapEntry}, REs Θ G es cs → es.all p = cs.all q
  | [], cs, h => by rw [h.nil_inv]; rfl
  | e :: es, cs, h => by
    obtain ⟨c, cs', rfl, hc, h'⟩ := h.cons_inv
    simp only [List.all_cons, hpq e c hc, REs.all hpq h']

theorem REs.find {p : AV × AV × Nat → Bool} {q : MapEntry → Bool} (hpq : ∀ e c, REntry Θ G e c → p e = q c) : ∀ {es : List (AV × AV × Nat)} {cs : List MapEntry} {e : AV × AV × Nat}, REs Θ G es cs → es.find? p = some e → ∃ c, cs.find? q = some c ∧ REntry Θ G e c
  | [], cs, e, h, hf => by simp at hf
  | a :: es, cs, e, h, hf => by
    obtain ⟨c, cs', rfl, hc, h'⟩ := h.cons_inv
    simp only [List.find?_cons, hpq a c hc] at hf ⊢
    split at hf
    · cases hf; exact ⟨c, by simp_all, hc⟩
    · rename_i hq
      obtain ⟨c', h1, h2⟩ := REs.find hpq h' hf
      exact ⟨c', by simp_all, h2⟩

section
variable {h h' : AH} {w : World} {nx : Nx} {ρ : Rf → AV} {ρc : Operand → Value} {o : Oper}

theorem op_rng {t : TypeId} {x : Operand} {y : Rf} {d : TypeDesc} (ho : o.op = .range t x) (hu : P.underlying t = some d) (str : Bool) (hd : (str = true ∧ d = .string) ∨ (str = false ∧ ∃ a b, d = .map a b)) (hc : cRef x = some y)
    (hx : xop ρ (.rng str y) h = .ok nx h') (hρ : RRef Θ G ρ ρc) (r : RH P Θ G h w) : OpOK P Θ G h w nx h' ((execOp ρc o).run P w) := by
  have hv := hρ _ _ hc
  have hex : execOp ρc o = (do pure (.value (← Instr.range t (ρc x))) : Sem Go.Next) := by simp only [execOp, ho]
  simp only [xop] at hx
  split at hx
  · rename_i l e
    rcases hd with ⟨_, rfl⟩ | ⟨h0, _⟩
    · rw [hnew_eq] at hx
      obtain ⟨rfl, rfl⟩ := ok_inj hx
      obtain ⟨s, hp, rfl⟩ := str_inv e hv
      refine ⟨_, _, _, execOp_v hex ?_, Next.new r (.sit _ 0) (.stringIter s 0) 0 ⟨rfl, s, rfl, rfl, Nat.zero_le _⟩, .inl ⟨_, rfl, .p 0 (Gm.put_same _ _ _)⟩⟩
      rw [hp]
      simp [Instr.range, run_underlying hu, Loc.at]
    · cases h0
  · rename_i e
    rcases hd with ⟨h0, _⟩ | ⟨_, a, b, rfl⟩
    · cases h0
    · rw [hnew_eq] at hx
      obtain ⟨rfl, rfl⟩ := ok_inj hx
      refine ⟨_, _, _, execOp_v hex ?_, Next.new r (.mit none 0 [] 0) (.mapIter none 0 #[] 0) 0 ⟨rfl, rfl⟩, .inl ⟨_, rfl, .p 0 (Gm.put_same _ _ _)⟩⟩
      rw [nm_inv e hv]
      simp [Instr.range, run_underlying hu, Loc.at]
  · rename_i m e
    rcases hd with ⟨h0, _⟩ | ⟨_, a, b, rfl⟩
    · cases h0
    · split at hx
      · rename_i es clock hg
        rw [hnew_eq] at hx
        obtain ⟨rfl, rfl⟩ := ok_inj hx
        obtain ⟨L, hL, hp⟩ := map_inv e hv
        obtain ⟨L', cs, hL', hmo, hr⟩ := r.map hg
        rw [hL] at hL'; cases hL'
        refine ⟨_, _, _, execOp_v hex ?_, Next.new r (.mit (some m) clock [] clock) (.mapIter (some L.blk) clock #[] clock) 0 ⟨rfl, L, (Ext.put r _) _ _ hL, rfl⟩, .inl ⟨_, rfl, .p 0 (Gm.put_same _ _ _)⟩⟩
        rw [hp]
        simp [Instr.range, run_underlying hu, Loc.at, run_getObj (P := P) hmo (fun _ _ _ => by simp)]
      · cases hx
  · cases hx

theorem RH.objOf {h : AH} {w : World} (r : RH P Θ G h w) {id : Nat} {ob : AO} (hg : h.o.get id = some ob) (hl : ob.live = true) {L : Loc} (hL : G id = some L) : RO P Θ G (w.heap[L.blk]?) L ob := by
  obtain ⟨L', hL', hr⟩ := r.obj id ob hg hl
  rw [hL] at hL'; cases hL'; exact hr

theorem decode_ascii {s : ByteArray} {pos c : Nat} {l : List Nat} (hp : pos ≤ s.size) (h : c :: l = (s.data.toList.map UInt8.toNat).drop pos) (hc : c < 128) :
    pos < s.size ∧ Utf8.decode s pos = (c, 1) ∧ l = (s.data.toList.map UInt8.toNat).drop (pos + 1) := by
  have hlen : (s.data.toList.map UInt8.toNat).length = s.size := by rw [List.length_map]; exact bytes_len s
  have hlt : pos < s.size := by
    rcases Nat.lt_or_ge pos s.size with h' | h'
    · exact h'
    · rw [List.drop_eq_nil_of_le (by omega)] at h; cases h
  rw [List.drop_eq_getElem_cons (by omega)] at h
  injection h with h1 h2
  refine ⟨hlt, ?_, h2⟩
  have hg : (s.get! (pos + 0)).toNat = c := by
    rw [h1]
    have : s.get! (pos + 0) = s.data[pos]'hlt := by
      show s.data[pos + 0]! = _
      rw [Nat.add_zero]
      exact getElem!_pos s.data pos hlt
    rw [this]
    simp
  unfold Utf8.decode
  simp only [hg]
  rw [if_pos hc]

theorem rune_width (n b0 b1 b2 b3 : Nat) (hn : 1 ≤ n) : (Lib.decodeN n b0 b1 b2 b3).2 ≤ n := by
  unfold Lib.decodeN
  repeat' split
  all_goals simp only
  all_goals omega

theorem getD_map_nat (l : List UInt8) (k : Nat) : (l.map UInt8.toNat).getD k 0 = (l.getD k 0).toNat := by
  simp only [List.getD_eq_getElem?_getD, List.getElem?_map]
  cases l[k]? <;> rfl

/-- The rune that the model reads. -/
theorem rune_sound {s : ByteArray} {pos : Nat} {l : List Nat} (hpos : pos ≤ s.size) (hl : l = (s.data.toList.map UInt8.toNat).drop pos) (hne : l ≠ []) :
    pos < s.size ∧ Utf8.decode s pos = rune l ∧ pos + (rune l).2 ≤ s.size ∧ l.drop (rune l).2 = (s.data.toList.map UInt8.toNat).drop (pos + (rune l).2) := by
  have hsz : s.data.toList.length = s.size := by simp
  have hll : l.length = s.size - pos := by rw [hl, List.length_drop, List.length_map, hsz]
  have hlt : pos < s.size := by
    rcases Nat.lt_or_ge pos s.size with h | h
    · exact h
    · exact absurd (List.length_eq_zero_iff.1 (by omega)) hne
  have hg : ∀ k, l.getD k 0 = (s.data.toList.getD (pos + k) 0).toNat := fun k => by
    rw [hl, ← getD_map_nat]
    simp only [List.getD_eq_getElem?_getD, List.getElem?_drop]
  have hr : Utf8.decode s pos = rune l := by
    rw [Lib.decode_N, rune, hg, hg, hg, hg, hll, hsz]; rfl
  have hw : (rune l).2 ≤ l.length := rune_width _ _ _ _ _ (by omega)
  exact ⟨hlt, hr, by omega, by rw [hl, List.drop_drop]⟩

theorem op_nxt {it : Operand} {y : Rf} {str : Bool} (ho : o.op = .next it str) (hc : cRef it = some y)
    (hx : xop ρ (.nxt str y) h = .ok nx h') (hρ : RRef Θ G ρ ρc) (r : RH P Θ G h w) : OpOK P Θ G h w nx h' ((execOp ρc o).run P w) := by
  have hv := hρ _ _ hc
  have hex : execOp ρc o = (do pure (.value (← Instr.next (ρc it) str o.type)) : Sem Go.Next) := by simp only [execOp, ho]
  simp only [xop] at hx
  split at hx
  · rename_i id e
    obtain ⟨L, hL, hp⟩ := ptr_inv e hv
    have hat : L.base = 0 → L.at 0 = ⟨L.blk, 0, none⟩ := fun h => by unfold Loc.at; rw [h]
    split at hx
    · -- a text
      rename_i l pos hg
      obtain ⟨hb, s, ho1, hl, hpos⟩ := r.objOf hg rfl hL
      have hgo : (getObj L.blk).run P w = .ok (.stringIter s pos) w := run_getObj (P := P) ho1 (fun _ _ _ => by simp)
      have hso : ∀ ob, (setObj L.blk ob).run P w = .ok () (wput w L.blk ob) := fun ob => run_setObj (P := P) ho1 (fun _ _ _ => by simp)
      split at hx
      · obtain ⟨rfl, rfl⟩ := ok_inj hx
        have hge : ¬ pos < s.size := by
          intro hlt
          have hlen : (s.data.toList.map UInt8.toNat).length = s.size := by rw [List.length_map]; exact bytes_len s
          have := congrArg List.length hl
          rw [List.length_drop, hlen] at this
          simp at this; omega
        refine .val (v := .tuple #[.bool false]) r (RL.tp_iff.2 (RL.cons (.b false) RL.nil)) (execOp_v hex ?_)
        rw [hp, hat hb]
        simp only [Instr.next, Sem.run_bind, hgo, Result.andThen_ok, if_neg hge, Sem.run_pure]
      · rename_i c l'
        split at hx
        · rename_i hc128
          have hc' : c < 128 := by simpa using hc128
          rw [natK_eq, hset_eq] at hx
          obtain ⟨rfl, rfl⟩ := ok_inj hx
          obtain ⟨d1, d2, d3⟩ := decode_ascii hpos hl hc'
          refine ⟨_, _, _, execOp_v hex ?_, Next.put r hg rfl hL (o' := .sit l' (pos + 1)) (ob := .stringIter s (pos + 1)) ⟨hb, s, rfl, d3, d1⟩, .inl ⟨.tuple #[.bool true, .int .i64 pos, .int .i32 c], rfl, RL.tp_iff.2 (RL.cons (.b true) (RL.cons (.i _ _) (RL.cons (.i _ _) RL.nil)))⟩⟩
          rw [hp, hat hb]
          simp only [Instr.next, Sem.run_bind, hgo, Result.andThen_ok, if_pos d1, d2, hso, Sem.run_pure, goInt]
        · rw [natK_eq, natsK_eq, hset_eq] at hx
          obtain ⟨rfl, rfl⟩ := ok_inj hx
          obtain ⟨d1, d2, d3, d4⟩ := rune_sound hpos hl (by simp)
          generalize rune (c :: l') = rw' at d2 d3 d4 ⊢
          obtain ⟨u, k⟩ := rw'
          refine ⟨_, _, _, execOp_v hex ?_, Next.put r hg rfl hL (o' := .sit ((c :: l').drop k) (pos + k)) (ob := .stringIter s (pos + k)) ⟨hb, s, rfl, d4, d3⟩, .inl ⟨.tuple #[.bool true, .int .i64 pos, .int .i32 u], rfl, RL.tp_iff.2 (RL.cons (.b true) (RL.cons (.i _ _) (RL.cons (.i _ _) RL.nil)))⟩⟩
          rw [hp, hat hb]
          simp only [Instr.next, Sem.run_bind, hgo, Result.andThen_ok, if_pos d1, d2, hso, Sem.run_pure, goInt]
    · rename_i hg
      obtain ⟨rfl, rfl⟩ := ok_inj hx
      obtain ⟨hb, ho1⟩ := r.objOf hg rfl hL
      have hgo := run_getObj (P := P) ho1 (fun _ _ _ => by simp)
      refine .val (v := .tuple #[.bool false]) r (RL.tp_iff.2 (RL.cons (.b false) RL.nil)) (execOp_v hex ?_)
      rw [hp, hat hb]
      simp only [Instr.next, Sem.run_bind, hgo, Result.andThen_ok, Sem.run_pure]
    · rename_i m since seen last hg
      obtain ⟨hb, Lm, hLm, ho1⟩ := r.objOf hg rfl hL
      have hgo := run_getObj (P := P) ho1 (fun _ _ _ => by simp)
      have hso : ∀ ob, (setObj L.blk ob).run P w = .ok () (wput w L.blk ob) := fun ob => run_setObj (P := P) ho1 (fun _ _ _ => by simp)
      split at hx
      · rename_i es clock hgm
        obtain ⟨L', cs, hL', hmo, hr⟩ := r.map hgm
        rw [hLm] at hL'; cases hL'
        have hgm' : (getObj Lm.blk).run P w = .ok (.map cs clock) w := run_getObj (P := P) hmo (fun _ _ _ => by simp)
        split at hx
        · cases hx
        · rename_i hno
          have hnoC : (!seen.toArray.isEmpty && !cs.isEmpty && cs.all (fun x => decide (x.born ≥ last))) = false := by
            rw [← hno]
            have h1 : cs.isEmpty = es.isEmpty := by
              have := hr.1
              rw [Bool.eq_iff_iff]; simp at this ⊢
              constructor
              · intro h; apply List.eq_nil_of_length_eq_zero; rw [this, h]; rfl
              · intro h; apply Array.eq_empty_of_size_eq_zero; rw [← this, h]; rfl
            have h2 : cs.all (fun x => decide (x.born ≥ last)) = es.all (fun e => Nat.ble last e.2.2) := by
              rw [hr.all (p := fun e => Nat.ble last e.2.2) (q := fun c => decide (c.born ≥ last)) (fun e c hec => by
                rw [hec.born, Bool.eq_iff_iff]; simp)]
              rw [← Array.all_toList]
            rw [h1, h2]
            simp
          have hleft := hr.filter (p := fun e => !seen.contains e.2.2) (q := fun c => !seen.toArray.contains c.born) (fun e c hec => by rw [hec.born]; simp)
          have hold := hleft.filter (p := fun e => Nat.blt e.2.2 since) (q := fun c => decide (c.born < since)) (fun e c hec => by rw [hec.born, Bool.eq_iff_iff]; simp)
          have hnew := hleft.filter (p := fun e => Nat.ble since e.2.2) (q := fun c => decide (c.born ≥ since)) (fun e c hec => by rw [hec.born, Bool.eq_iff_iff]; simp)
          obtain ⟨oldA, hoA⟩ : ∃ a, a = (cs.filter fun e => !seen.toArray.contains e.born).filter fun x => decide (x.born < since) := ⟨_, rfl⟩
          obtain ⟨newA, hnA⟩ : ∃ a, a = (cs.filter fun e => !seen.toArray.contains e.born).filter fun x => decide (x.born ≥ since) := ⟨_, rfl⟩
          have hoL : oldA.toList = (cs.toList.filter fun c => !seen.toArray.contains c.born).filter fun c => decide (c.born < since) := by rw [hoA]; simp
          have hnL : newA.toList = (cs.toList.filter fun c => !seen.toArray.contains c.born).filter fun c => decide (c.born ≥ since) := by rw [hnA]; simp
          have hrun : ∀ (cand : Array (Option MapEntry)), cand = (if oldA.isEmpty then #[none] else #[]) ++ (oldA ++ newA).map some →
              (Instr.next (.pointer (some ⟨L.blk, 0, none⟩)) false o.type).run P w = (do
                match cand[← choose (.mapNext cand.size)]? with
                | some (some e) =>
                  setObj L.blk (.mapIter (some Lm.blk) since (seen.toArray.push e.born) clock)
                  pure (.tuple #[.bool true, e.key, e.val])
                | some none => pure (.tuple #[.bool false])
                | none => stuck "Next: no such candidate" : Sem Value).run P w := by
            intro cand hcand
            simp only [Instr.next, Sem.run_bind, hgo, Result.andThen_ok, hgm']
            rw [if_neg (by rw [hnoC]; simp)]
            rw [← hoA, ← hnA, ← hcand]
            exact Sem.run_bind P w _ _
          split at hx
          · rename_i e1 e2
            obtain ⟨rfl, rfl⟩ := ok_inj hx
            rw [e1] at hold; rw [e2] at hnew
            have z1 : oldA = #[] := by
              have := hold.nil_inv; rw [← hoL] at this
              rw [← Array.toArray_toList (xs := oldA), this]
            have z2 : newA = #[] := by
              have := hnew.nil_inv; rw [← hnL] at this
              rw [← Array.toArray_toList (xs := newA), this]
            refine .val (v := .tuple #[.bool false]) r (RL.tp_iff.2 (RL.cons (.b false) RL.nil)) (execOp_v hex ?_)
            rw [hp, hat hb, hrun #[none] (by rw [z1, z2]; simp)]
            rfl
          · rename_i en e1 e2
            rw [hset_eq] at hx
            obtain ⟨rfl, rfl⟩ := ok_inj hx
            rw [e1] at hold; rw [e2] at hnew
            obtain ⟨c, cs', hl1, hec, hl2⟩ := hold.cons_inv
            rw [hl2.nil_inv, ← hoL] at hl1
            have z1 : oldA = #[c] := by rw [← Array.toArray_toList (xs := oldA), hl1]
            have z2 : newA = #[] := by
              have := hnew.nil_inv; rw [← hnL] at this
              rw [← Array.toArray_toList (xs := newA), this]
            refine ⟨_, _, _, execOp_v hex ?_, Next.put r hg rfl hL (o' := .mit (some m) since (seen ++ [en.2.2]) clock) (ob := .mapIter (some Lm.blk) since (seen.toArray.push c.born) clock) ⟨hb, Lm, hLm, by rw [hec.born]; simp⟩,
              .inl ⟨.tuple #[.bool true, c.key, c.val], rfl, RL.tp_iff.2 (RL.cons (.b true) (RL.cons hec.key (RL.cons hec.val RL.nil)))⟩⟩
            rw [hp, hat hb, hrun #[some c] (by rw [z1, z2]; simp)]
            have hch : (choose (.mapNext (#[some c] : Array (Option MapEntry)).size)).run P w = .ok 0 w := rfl
            simp only [Sem.run_bind, hch, Result.andThen_ok]
            simp [hso]
          · cases hx
      · cases hx
    · cases hx
  · cases hx

theorem op_ent {it : Operand} {y : Rf} (ho : o.op = .entry it) (hc : cRef it = some y) (hx : xop ρ (.ent y) h = .ok nx h') (hρ : RRef Θ G ρ ρc) (r : RH P Θ G h w) : OpOK P Θ G h w nx h' ((execOp ρc o).run P w) := by
  have hv := hρ _ _ hc
  have hex : execOp ρc o = (do pure (.value (← Instr.entry (ρc it))) : Sem Go.Next) := by simp only [execOp, ho]
  simp only [xop] at hx
  split at hx
  · rename_i id e
    obtain ⟨L, hL, hp⟩ := ptr_inv e hv
    split at hx
    · rename_i m since seen stepped hg
      obtain ⟨hb, Lm, hLm, ho1⟩ := r.objOf hg rfl hL
      have hat : L.at 0 = ⟨L.blk, 0, none⟩ := by unfold Loc.at; rw [hb]
      have hgo := run_getObj (P := P) ho1 (fun _ _ _ => by simp)
      split at hx
      · rename_i stamp es clock hls hgm
        obtain ⟨L', cs, hL', hmo, hr⟩ := r.map hgm
        rw [hLm] at hL'; cases hL'
        have hgm' : (getObj Lm.blk).run P w = .ok (.map cs clock) w := run_getObj (P := P) hmo (fun _ _ _ => by simp)
        split at hx
        · rename_i en hck hf
          obtain ⟨rfl, rfl⟩ := ok_inj hx
          have hclk : clock = stepped := Nat.eq_of_beq_eq_true hck
          obtain ⟨c, hf', hec⟩ := hr.find (q := fun c => c.born == stamp) (fun e c hec => by rw [hec.born, Bool.eq_iff_iff]; simp) hf
          have hf2 : cs.find? (fun x => x.born == stamp) = some c := by rw [← Array.find?_toList]; exact hf'
          have hbk : seen.toArray.back? = some stamp := by simpa using hls
          refine .val (v := .tuple #[c.key, c.val]) r (RL.tp_iff.2 (RL.cons hec.key (RL.cons hec.val RL.nil))) (execOp_v hex ?_)
          rw [hp, hat]
          unfold Instr.entry
          simp only [Sem.run_bind, hgo, Result.andThen_ok, hbk, hgm']
          rw [if_neg (by rw [hclk]; simp)]
          rw [hf2]
          rfl
        · cases hx
      · cases hx
    · cases hx
  · cases hx

end
end Go.Proofs.YtmlfcopllfdjfaaGreat.Am
