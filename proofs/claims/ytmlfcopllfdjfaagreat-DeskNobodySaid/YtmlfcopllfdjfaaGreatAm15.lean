/- An abstract machine for the program's code, and that it is sound: part Am15. -/
import Derived.Test.YtmlfcopllfdjfaaGreatAm14
namespace Go.Proofs.YtmlfcopllfdjfaaGreat.Am
variable {P : Program} {Θ : Th} {G : Gm}

theorem find_mapsClone (fn : Func) (h : fn.name = "maps.clone") : Extern.find fn = some Extern.MapsClone.clone := by
  have h1 : Extern.allGenericRows.lookup "maps.clone" = none := by kernel_rfl
  have h2 : Extern.allTypedRows.lookup "maps.clone" = none := by kernel_rfl
  have h3 : Extern.allRows.lookup "maps.clone" = some Extern.MapsClone.clone := by kernel_rfl
  unfold Extern.find
  simp only [h, h1, h2, h3]
  rfl

theorem find_indexByteString (fn : Func) (h : fn.name = "internal/bytealg.IndexByteString") : Extern.find fn = some Extern.BytealgIndexByte.indexByte := by
  have h1 : Extern.allGenericRows.lookup "internal/bytealg.IndexByteString" = none := by kernel_rfl
  have h2 : Extern.allTypedRows.lookup "internal/bytealg.IndexByteString" = none := by kernel_rfl
  have h3 : Extern.allRows.lookup "internal/bytealg.IndexByteString" = some Extern.BytealgIndexByte.indexByte := by kernel_rfl
  unfold Extern.find
  simp only [h, h1, h2, h3]
  rfl

theorem run_callExtern {f : FuncId} {fn : Func} {e : Array Value → Sem Value} (hf : P.funcs[f]? = some fn) (hb : fn.body = none) (hn : (fn.name == "runtime.NumGoroutine") = false) (hnx : Extern.findNext fn = none) (he : Extern.find fn = some e) (args : Array Value) (w : World) {v : Value} {w' : World} (hr : (e args).run P w = .ok v w') :
    (callFunc f args).run P w = .ok (.value v) w' := by
  unfold callFunc
  simp only [Sem.run_bind, run_program, Result.andThen_ok, hf, hn, hb, Option.isNone_none, if_true, Bool.false_eq_true, if_false, run_mark, hnx, he]
  rw [hr]; rfl

section
variable {h h' : AH} {w : World} {nx : Nx} {ρ : Rf → AV} {ρc : Operand → Value} {o : Oper}

theorem execOp_call {c : Call} {f : Operand} {fn : Fn} {first cap : Array Value} (ho : o.op = .call c) (hc : c.callee = .value f) (hv : ρc f = .func fn first cap) :
    execOp ρc o = invoke (.fn fn cap) (first ++ c.args.map ρc) := by
  simp only [execOp, ho, resolve, hc, hv, Deferred.ofValue]
  rfl

theorem op_call {c : Call} {f : FuncId} {args : List Rf} (ho : o.op = .call c) (hc : c.callee = .value (.func f)) (ha : cRefs c.args.toList = some args) (hx : xop ρ (.call f args) h = .ok nx h') (hρ : RRef Θ G ρ ρc) (hρ0 : ∀ v, ρ (.c v) = v) :
    OpOK P Θ G h w nx h' ((execOp ρc o).run P w) := by
  simp only [xop, listK_eq] at hx
  obtain ⟨rfl, rfl⟩ := ok_inj hx
  have hf := hρ (.func f) _ rfl
  rw [hρ0] at hf
  obtain ⟨hv⟩ : ρc (.func f) = .func (.func f) #[] #[] ∧ True := by
    generalize ρc (.func f) = q at hf
    cases hf with | f hfn h1 h2 _ _ =>
      cases hfn
      simp at h1 h2
      exact ⟨by rw [Array.eq_empty_of_size_eq_zero h1.symm, Array.eq_empty_of_size_eq_zero h2.symm], trivial⟩
  refine ⟨rfl, c.args.map ρc, ?_, ?_⟩
  · rw [execOp_call ho hc ‹_›]
    simp only [invoke]
    rw [show (#[] : Array Value) ++ c.args.map ρc ++ #[] = c.args.map ρc by simp]
  · rw [Array.toList_map]; exact cRefs_sound hρ ha

theorem op_cald {c : Call} {f : Operand} {f' : Rf} {args : List Rf} (ho : o.op = .call c) (hc : c.callee = .value f) (hf : cRef f = some f') (ha : cRefs c.args.toList = some args) (hx : xop ρ (.cald f' args) h = .ok nx h') (hρ : RRef Θ G ρ ρc) :
    OpOK P Θ G h w nx h' ((execOp ρc o).run P w) := by
  have hv := hρ _ _ hf
  have hargs := cRefs_sound hρ ha
  simp only [xop, listK_eq] at hx
  split at hx
  · rename_i g first cap e
    obtain ⟨rfl, rfl⟩ := ok_inj hx
    rw [e] at hv
    obtain ⟨a', b', hp, r1, r2⟩ : ∃ a' b', ρc f = .func (.func g) a' b' ∧ RL Θ G first a'.toList ∧ RL Θ G cap b'.toList := by
      generalize ρc f = q at hv
      cases hv with | f hfn h1 h2 h3 h4 =>
        cases hfn
        have := RL.f_iff.1 (RV.f (Θ := Θ) (.func g) h1 h2 h3 h4)
        exact ⟨_, _, rfl, this.2.1, this.2.2⟩
    refine ⟨rfl, a' ++ c.args.map ρc ++ b', ?_, ?_⟩
    · rw [execOp_call ho hc hp]; simp only [invoke]
    · simp only [Array.toList_append, Array.toList_map]
      exact (r1.append hargs).append r2
  · rename_i l e
    obtain ⟨rfl, rfl⟩ := ok_inj hx
    rw [e] at hv
    obtain ⟨L, hL, hp⟩ : ∃ L, G l = some L ∧ ρc f = .func (.yield L.blk) #[] #[] := by
      generalize ρc f = q at hv
      cases hv with | f hfn h1 h2 _ _ =>
        cases hfn with | yield hL =>
          simp at h1 h2
          exact ⟨_, hL, by rw [Array.eq_empty_of_size_eq_zero h1.symm, Array.eq_empty_of_size_eq_zero h2.symm]⟩
    refine ⟨rfl, L, c.args.map ρc, hL, ?_, ?_⟩
    · rw [execOp_call ho hc hp]; simp only [invoke]
      rw [show (#[] : Array Value) ++ c.args.map ρc = c.args.map ρc by simp]
    · rw [Array.toList_map]; exact hargs
  · cases hx

theorem run_clone {r : Nat} {es : Array MapEntry} {clock : Nat} (t : TypeId) (hb : (getObj r).run P w = .ok (.map es clock) w) :
    (Extern.MapsClone.clone #[.iface t (.map (some r))]).run P w = .ok (.iface t (.map (some w.heap.size))) { w with heap := w.heap.push (.map es clock) } := by
  have e : Extern.MapsClone.clone #[.iface t (.map (some r))] = (getObj r >>= fun o => match o with
      | .map entries clock => (newObj (.map entries clock) >>= fun n => pure (.iface t (.map (some n))))
      | _ => stuck "maps.clone: a map expected") := rfl
  rw [e, Sem.run_bind, hb]
  simp [Result.andThen, run_newObj]

theorem op_mcl {c : Call} {f : FuncId} {fn : Func} {x' : Rf} (ho : o.op = .call c) (hc : c.callee = .value (.func f)) (hfn : P.funcs[f]? = some fn) (hb : fn.body = none) (hnx : Extern.findNext fn = none) (hnm : fn.name = "maps.clone") (ha : cRefs c.args.toList = some [x'])
    (hx : xop ρ (.mcl x') h = .ok nx h') (hρ : RRef Θ G ρ ρc) (hρf : ρc (.func f) = .func (.func f) #[] #[]) (r : RH P Θ G h w) : OpOK P Θ G h w nx h' ((execOp ρc o).run P w) := by
  obtain ⟨x, hax, hcx⟩ := cRefs1 ha
  have hv := hρ _ _ hcx
  simp only [xop] at hx
  split at hx
  · rename_i t id e
    split at hx
    · rename_i es clock hg
      rw [hnew_eq] at hx
      obtain ⟨rfl, rfl⟩ := ok_inj hx
      rw [e] at hv
      obtain ⟨L, hL, hp⟩ : ∃ L, G id = some L ∧ ρc x = .iface t (.map (some L.blk)) := by
        generalize ρc x = q at hv
        cases hv with | ifc _ h => cases h with | m hL => exact ⟨_, hL, rfl⟩
      obtain ⟨L', cs, hL', hmo, hr⟩ := r.map hg
      rw [hL] at hL'; cases hL'
      have hgo : (getObj L.blk).run P w = .ok (.map cs clock) w := run_getObj (P := P) hmo (fun _ _ _ => by simp)
      refine ⟨_, _, _, ?_, Next.new r (.map es clock) (.map cs clock) 0 ⟨cs, rfl, hr.ext (Ext.put r _)⟩, .inl ⟨.iface t (.map (some w.heap.size)), rfl, .ifc t (RV.m (L := ⟨w.heap.size, 0, 0⟩) (Gm.put_same _ _ _))⟩⟩
      rw [execOp_call ho hc hρf]
      simp only [invoke]
      refine run_callExtern hfn hb (by rw [hnm]; decide) hnx (find_mapsClone fn hnm) _ w ?_
      rw [args1 hax, hp, show (#[] : Array Value) ++ #[Value.iface t (.map (some L.blk))] ++ #[] = #[Value.iface t (.map (some L.blk))] by simp]
      exact run_clone t hgo
    · cases hx
  · cases hx

theorem sfind_sound (c : UInt8) : ∀ (l : List UInt8) (i : Nat), sfind c.toNat (l.map UInt8.toNat) i = ((List.range l.length).find? fun j => l[j]? == some c).map (· + i)
  | [], i => rfl
  | a :: l, i => by
    simp only [List.map_cons, sfind, List.length_cons, List.range_succ_eq_map, List.find?_cons]
    by_cases hac : a = c
    · subst hac
      have : Nat.beq a.toNat a.toNat = true := Nat.beq_refl _
      rw [this]
      simp
    · have : Nat.beq a.toNat c.toNat = false := by
        cases h : Nat.beq a.toNat c.toNat with
        | false => rfl
        | true => exact absurd (UInt8.toNat_inj.1 (Nat.eq_of_beq_eq_true h)) hac
      rw [this]
      have h0 : ((a :: l)[0]? == some c) = false := by simp [hac]
      rw [h0]
      simp only [sfind_sound c l (i + 1), List.find?_map]
      cases hf : (List.range l.length).find? (fun j => l[j]? == some c) with
      | none =>
        have : (List.range l.length).find? ((fun j => (a :: l)[j]? == some c) ∘ Nat.succ) = none := by
          rw [← hf]; congr 1
        rw [this]; rfl
      | some j =>
        have : (List.range l.length).find? ((fun j => (a :: l)[j]? == some c) ∘ Nat.succ) = some j := by
          rw [← hf]; congr 1
        rw [this]
        simp; omega

theorem run_indexByte (s : ByteArray) (c : UInt8) (w : World) :
    (Extern.BytealgIndexByte.indexByte #[.string s, .int .u8 (Int.ofNat c.toNat)]).run P w = .ok (match (List.range s.size).find? (fun i => s[i]! == c) with
      | some i => .int .i64 (i : Int)
      | none => .int .i64 (-1)) w := by
  have e : Extern.BytealgIndexByte.indexByte #[.string s, .int .u8 (Int.ofNat c.toNat)] = (match (List.range s.size).find? (fun i => s[i]! == (Int.ofNat c.toNat).toNat.toUInt8) with
      | some i => pure (goInt i)
      | none => pure (goInt (-1)) : Sem Value) := rfl
  rw [e]
  have : (Int.ofNat c.toNat).toNat.toUInt8 = c := by simp
  rw [this]
  cases (List.range s.size).find? (fun i => s[i]! == c) <;> simp [goInt]

theorem find_congr' {α : Type} {p q : α → Bool} : ∀ (l : List α), (∀ a ∈ l, p a = q a) → l.find? p = l.find? q
  | [], _ => rfl
  | a :: l, h => by
    simp only [List.find?_cons, h a (by simp), find_congr' l fun b hb => h b (by simp [hb])]

theorem op_ibs {c : Call} {f : FuncId} {fn : Func} {x' y' : Rf} (ho : o.op = .call c) (hc : c.callee = .value (.func f)) (hfn : P.funcs[f]? = some fn) (hb : fn.body = none) (hnx : Extern.findNext fn = none) (hnm : fn.name = "internal/bytealg.IndexByteString") (ha : cRefs c.args.toList = some [x', y'])
    (hx : xop ρ (.ibs x' y') h = .ok nx h') (hρ : RRef Θ G ρ ρc) (hρf : ρc (.func f) = .func (.func f) #[] #[]) (r : RH P Θ G h w) : OpOK P Θ G h w nx h' ((execOp ρc o).run P w) := by
  obtain ⟨x, y, hax, hcx, hcy⟩ := cRefs2 ha
  have hv := hρ _ _ hcx
  have hv2 := hρ _ _ hcy
  simp only [xop] at hx
  split at hx
  · rename_i l n ex ey
    obtain ⟨s, hs, rfl⟩ := str_inv ex hv
    have hn := int_inv ey hv2
    have hfs : n < 256 → ∀ i?, sfind n (s.data.toList.map UInt8.toNat) 0 = i? → (execOp ρc o).run P w = .ok (.value (match i? with
        | some i => .int .i64 (i : Int)
        | none => .int .i64 (-1))) w := by
      intro hlt i? hi
      obtain ⟨c8, hc8⟩ : ∃ c8 : UInt8, n = c8.toNat := ⟨UInt8.ofNat n, by rw [UInt8.toNat_ofNat']; exact (Nat.mod_eq_of_lt hlt).symm⟩
      subst hc8
      have hfe : (List.range s.size).find? (fun i => s[i]! == c8) = i? := by
        rw [← hi, sfind_sound]
        have h0 : s.data.toList.length = s.size := Array.length_toList
        rw [h0]
        have hid : ∀ z : Option Nat, z.map (fun x => x + 0) = z := by intro z; cases z <;> rfl
        rw [hid]
        refine find_congr' _ ?_
        intro j hj
        have hj : j < s.size := by simpa using hj
        rw [getElem!_pos s j hj, Array.getElem?_toList, Array.getElem?_eq_getElem (show j < s.data.size from hj)]
        rfl
      rw [execOp_call ho hc hρf]
      simp only [invoke]
      refine run_callExtern hfn hb (by rw [hnm]; decide) hnx (find_indexByteString fn hnm) _ w ?_
      rw [args2 hax, hs, hn, show (#[] : Array Value) ++ #[Value.string s, .int .u8 (Int.ofNat c8.toNat)] ++ #[] = #[Value.string s, .int .u8 (Int.ofNat c8.toNat)] by simp, run_indexByte, hfe]
    split at hx
    · rename_i i hlt hf
      rw [natK_eq] at hx
      obtain ⟨rfl, rfl⟩ := ok_inj hx
      exact .val r (.i ..) (hfs (by simpa using hlt) _ hf)
    · rename_i hlt hf
      obtain ⟨rfl, rfl⟩ := ok_inj hx
      exact .val r (.i ..) (hfs (by simpa using hlt) _ hf)
    · cases hx
  · cases hx

end
end Go.Proofs.YtmlfcopllfdjfaaGreat.Am
