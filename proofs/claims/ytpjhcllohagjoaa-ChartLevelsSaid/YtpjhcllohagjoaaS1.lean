/-
  Sim: copies within memory of the call's own, queues (slices cut from the front and put to), slices that are nil just if they are empty. Own work; no claim stands here.
-/
import Derived.Test.YtpjhcllohagjoaaSJ
namespace Go.Proofs.Ytpjhcllohagjoaa
namespace S
open Go.RowKit
set_option linter.unusedVariables false
set_option linter.unusedSimpArgs false

/-- A part of a slice of the call's own (one cell an element): from lo on; up to hi. -/
def AV.vwl (v : Value) (lo : Nat) : AV := ⟨fun _ _ u => ∃ A n m, v = .slice A n m ∧ lo ≤ n ∧ n ≤ m ∧ u = .slice (if m = lo then A else A.map (·.add lo)) (n - lo) (m - lo), fun _ _ h => h⟩
def AV.vwr (v : Value) (hi : Nat) : AV := ⟨fun _ _ u => ∃ A n m, v = .slice A n m ∧ hi ≤ n ∧ u = .slice A hi m, fun _ _ h => h⟩

section
variable {P : Program} {f : FuncId} {n : Nat} {ops : Array Oper} {l : List Oper} {k : List Item} {fr : Fr} {H : List Res} {ρ R : Type} {x : Option ρ} {X : ρ → Option R} {K : R → AV → List Res → Prop} {ty t t' e t0 : TypeId} {d : Nat} {pos : String} {aft : Array Edge}
variable {T : Type} {c : Co T} {v : Value} {xs : List T} {j : Nat}

theorem own_room {Z F : Nat → Prop} {w : World} (h : (Res.own t0 c v xs).h Z w F) : ∃ A m, v = .slice A xs.length m ∧ xs.length ≤ m := by
  obtain ⟨A, m, e, hm, _⟩ := own_fsl h
  exact ⟨A, m, e, hm⟩
theorem dSlVl {y a : Operand} {ka : IntKind} {i : Int} (ht : P.underlying t = some (.slice e)) (hsz : SizeIs P e 1) (hy : arg fr y = some (.sv v)) (hj : H[j]? = some (.own t0 c v xs)) (ha : arg fr a = some (Ai ka i)) (h0 : 0 ≤ i) (h1 : i ≤ xs.length) : D P n H (.slice t y (some a) none none) ty fr (.vwl v i.toNat) :=
  .of fun o ho hty w Z F ρ hH hf => by
    obtain ⟨e1, _⟩ := hf (by simp [Op.operands]) hy
    have e2 : ρ a = _ := hf (by simp [Op.operands]) ha
    obtain ⟨F1, h, _⟩ := hH.at hj
    obtain ⟨A, q, e3, hq⟩ := own_room h
    rw [e3] at e1
    refine ⟨_, ?_, A, _, _, e3, by omega, hq, rfl⟩
    simp [execOp, ho, e1, e2, Instr.sliceAt, Instr.slice, Instr.sliceBounds, Instr.sliceBound, run_underlying ht, hsz _, Sem.run_bind, asIntOf, h0, h1]
theorem dSlVr {y b : Operand} {kb : IntKind} {m : Int} (ht : P.underlying t = some (.slice e)) (hsz : SizeIs P e 1) (hy : arg fr y = some (.sv v)) (hj : H[j]? = some (.own t0 c v xs)) (hb : arg fr b = some (Ai kb m)) (h1 : 0 ≤ m) (h2 : m ≤ xs.length) : D P n H (.slice t y none (some b) none) ty fr (.vwr v m.toNat) :=
  .of fun o ho hty w Z F ρ hH hf => by
    obtain ⟨e1, _⟩ := hf (by simp [Op.operands]) hy
    have e3 : ρ b = _ := hf (by simp [Op.operands]) hb
    obtain ⟨F1, h, _⟩ := hH.at hj
    obtain ⟨A, q, e4, hq⟩ := own_room h
    rw [e4] at e1
    have g1 : m ≤ (q : Int) := by omega
    refine ⟨.slice A m.toNat q, ?_, A, _, _, e4, by omega, rfl⟩
    simp [execOp, ho, e1, e3, Instr.sliceAt, Instr.slice, Instr.sliceBounds, Instr.sliceBound, run_underlying ht, hsz _, Sem.run_bind, asIntOf, g1, h1]
    intro _
    cases A <;> simp [Addr.add]

/-- Cells of a slice of the call's own are written anew, from the o-th on. -/
theorem write_own {w0 w : World} {F0 Z0 F Z : Nat → Prop} (hi : Inv w0 w F0 Z0 F Z H) (hsz : c.sz = 1) (hj : H[j]? = some (.own t0 c v xs)) (o : Nat) (zs : List T) (hz : 0 < zs.length) (ho : o + zs.length ≤ xs.length) (cs : List Value) (hcs : cs.length = zs.length)
    (hp : ∀ (i : Nat) (z : T), zs[i]? = some z → ∃ u, cs[i]? = some u ∧ AllP Z w (c.e z) [u]) (hone : ∀ u ∈ cs, u.oneCell' = true) : ∃ g cap w' F', v = .slice (some ⟨g, 0, none⟩) xs.length cap ∧ (storeCells ⟨g, o, none⟩ cs 0).run P w = .ok () w' ∧ Inv w0 w' F0 Z0 F' Z (H.set j (.own t0 c v (xs.take o ++ zs ++ xs.drop (o + zs.length)))) ∧ Keep Z w w' := by
  obtain ⟨F1, hown, _⟩ := hi.res.at hj
  obtain ⟨g, cap, cur, hv, ⟨fz, hh, hfz⟩, hcap, hmx, hsize, hF, hrows⟩ := own_cells hown (by omega)
  rw [hsz, Nat.mul_one] at hsize
  have hr := run_storeCells_fz (P := P) g o t0 fz cs 0 cur w hh hfz (by omega) hone
  simp only [Nat.add_zero] at hr
  obtain ⟨F', hi', hk⟩ := hi.turn (w' := w.setRow g (cur.toList.take o ++ cs ++ cur.toList.drop (o + cs.length)).toArray) (r' := .own t0 c v (xs.take o ++ zs ++ xs.drop (o + zs.length))) hj fun G1 hown' hz1 => by
    obtain ⟨g', cap', cur', hv', ⟨fz', hh', hfz'⟩, hcap', hmx', hsize', hF', hrows'⟩ := own_cells hown' (by omega)
    rw [hv] at hv'; simp at hv'
    obtain ⟨rfl, rfl⟩ := hv'
    rw [hh] at hh'; cases hh'
    have s := Step.setRow w g (cur.toList.take o ++ cs ++ cur.toList.drop (o + cs.length)).toArray G1 hF'
    have hkz : Keep Z w (w.setRow g (cur.toList.take o ++ cs ++ cur.toList.drop (o + cs.length)).toArray) := fun b hzz => s.keep b (hz1 b hzz).1 (hz1 b hzz).2
    have hlen : (xs.take o ++ zs ++ xs.drop (o + zs.length)).length = xs.length := by simp only [List.length_append, List.length_take, List.length_drop]; omega
    have hsame : (cur.toList.take o ++ cs ++ cur.toList.drop (o + cs.length)).toArray.size = cur.size := by
      simp only [List.size_toArray, List.length_append, List.length_take, List.length_drop, Array.length_toList]; omega
    refine ⟨G1, s, .inl ⟨(cur.toList.take o ++ cs ++ cur.toList.drop (o + cs.length)).take xs.length, ⟨?_, .inr ⟨g, cap, _, by rw [hlen]; exact hv, Nat.zero_le _, ⟨fz, setRow_heap w g cur _ t0 _ hh, by rw [hsame]; exact hfz⟩, by rw [hlen]; exact hcap, hmx, by rw [hsame, hsz]; omega, by rw [hlen, hsz, Nat.mul_one]⟩⟩, fun b hb => by rw [hv] at hb; cases hb; exact hF', ?_⟩, fun _ x => .inl x⟩
    · rw [hlen, hsz]; simp only [List.length_take, List.length_append, List.length_drop, Array.length_toList]; omega
    · intro i z hiz
      rw [hsz, Nat.mul_one]
      have hil : i < xs.length := by
        have := (List.getElem?_eq_some_iff.1 hiz).1
        rwa [hlen] at this
      have old : ∀ q, q < xs.length → ∀ z, xs[q]? = some z → ∃ u, cur.toList[q]? = some u ∧ AllP Z w (c.e z) [u] := fun q hq z hqz => by
        obtain ⟨vs, h2, h3⟩ := hrows q z hqz
        have hl1 : vs.length = 1 := by rw [← h2.length, c.len, hsz]
        obtain ⟨u, rfl⟩ : ∃ u, vs = [u] := List.length_eq_one_iff.1 hl1
        have := h3 0 u rfl
        rw [hsz, Nat.mul_one, Nat.mul_one, Nat.add_zero, List.getElem?_take, if_pos hq] at this
        exact ⟨u, this, h2⟩
      have key : ∃ u, (cur.toList.take o ++ cs ++ cur.toList.drop (o + cs.length))[i]? = some u ∧ AllP Z w (c.e z) [u] := by
        by_cases h1 : i < o
        · rw [List.append_assoc, List.getElem?_append_left (by simp; omega), List.getElem?_take, if_pos h1] at hiz
          rw [List.append_assoc, List.getElem?_append_left (by simp; omega), List.getElem?_take, if_pos h1]
          exact old i hil z hiz
        · by_cases h2 : i < o + zs.length
          · rw [List.getElem?_append_left (by simp; omega), List.getElem?_append_right (by simp; omega)] at hiz
            rw [List.getElem?_append_left (by simp; omega), List.getElem?_append_right (by simp; omega)]
            have e1 : (xs.take o).length = o := by rw [List.length_take]; omega
            have e2 : (cur.toList.take o).length = o := by rw [List.length_take, Array.length_toList]; omega
            rw [e1] at hiz; rw [e2]
            exact hp _ z hiz
          · have e1 : (xs.take o ++ zs).length = o + zs.length := by rw [List.length_append, List.length_take]; omega
            have e2 : (cur.toList.take o ++ cs).length = o + cs.length := by rw [List.length_append, List.length_take, Array.length_toList]; omega
            rw [List.getElem?_append_right (by omega), e1, List.getElem?_drop] at hiz
            rw [List.getElem?_append_right (by omega), e2, List.getElem?_drop]
            have e3 : o + cs.length + (i - (o + cs.length)) = i := by omega
            have e4 : o + zs.length + (i - (o + zs.length)) = i := by omega
            rw [e4] at hiz; rw [e3]
            exact old i hil z hiz
      obtain ⟨u, h1, h2⟩ := key
      refine ⟨[u], h2.st (fun _ y => y) hkz, fun q z2 hq => ?_⟩
      cases q with
      | zero => simp at hq; subst hq; rw [Nat.add_zero, List.getElem?_take, if_pos hil]; exact h1
      | succ q => simp at hq
  exact ⟨g, cap, _, F', hv, hr, hi', hk⟩

/-- copy into a whole slice of the call's own, out of memory that is read alone. -/
theorem sCopyF {y u : Operand} {ys : List T} (ht : P.underlying t = some (.slice e)) (hs : SizeIs P e 1) (hsz : c.sz = 1) (hy : arg fr y = some (.sv v)) (hj : H[j]? = some (.own t0 c v xs)) (hu : arg fr u = some (.fsl c ys)) (hdn : Nat.blt d n = true)
    (h : SimL P f n ops l k ((d, Ai .i64 (((min ys.length xs.length : Nat) : Int))) :: fr) (H.set j (.own t0 c v (ys.take xs.length ++ xs.drop ys.length))) x X K) : SimL P f n ops (⟨some d, .call ⟨.builtin .copy, #[y, u], #[t, t']⟩, ty, pos, aft, none⟩ :: l) k fr H x X K := by
  refine sEff (I := Unit) (av := fun _ => Ai .i64 (((min ys.length xs.length : Nat) : Int))) (H' := fun _ => H.set j (.own t0 c v (ys.take xs.length ++ xs.drop ys.length))) (fun o ho hty w0 F0 Z0 w F Z ρ hinv hf => ?_) hdn (fun _ => h)
  obtain ⟨e1, _⟩ := hf (by simp [Op.operands, Call.operands]) hy
  obtain ⟨A, m, e2, hA, hA'⟩ := cells_fsl (hf (by simp [Op.operands, Call.operands]) hu)
  obtain ⟨F1, hown, _⟩ := hinv.res.at hj
  obtain ⟨B, q, e3, hq⟩ := own_room hown
  by_cases hz : min ys.length xs.length = 0
  · -- nothing is copied
    have e4 : ys.take xs.length ++ xs.drop ys.length = xs := by
      rcases Nat.min_eq_zero_iff.1 hz with h0 | h0
      · rw [List.length_eq_zero_iff.1 h0]; simp
      · rw [h0, List.take_zero, List.nil_append, List.length_eq_zero_iff.1 h0]; simp
    have hset : H.set j (.own t0 c v (ys.take xs.length ++ xs.drop ys.length)) = H := by
      rw [e4]
      apply List.ext_getElem?
      intro i
      rw [List.getElem?_set]
      by_cases hij : j = i
      · subst hij
        rw [if_pos rfl]
        split
        · exact hj.symm
        · rename_i hlt; rw [List.getElem?_eq_none (by omega)]
      · rw [if_neg hij]
    refine ⟨.int .i64 0, w, (), F, Z, ?_, by rw [hset]; exact hinv, fun _ x => x, Keep.refl _ _, by rw [hz]; rfl⟩
    have hmin : Nat.min ys.length xs.length = 0 := hz
    cases A <;> cases B <;> simp [execOp, ho, hty, e1, e2, e3, resolve, invoke, builtin, Builtin.copy_, run_underlying ht, hs _, Builtin.lenOf, Builtin.firstCells, hmin, storeCells, Sem.run_bind, goInt, loadCells, loadCellsFrom]
  · have hy0 : ys ≠ [] := by intro hh; subst hh; simp at hz
    obtain ⟨a, rfl⟩ : ∃ a, A = some a := by
      cases A with
      | none => exact absurd (hA rfl) hy0
      | some a => exact ⟨a, rfl⟩
    obtain ⟨news, g1, g2, g3, g4⟩ := hA' a rfl
    rw [hsz, Nat.mul_one] at g1
    have hml : (ys.take xs.length).length = min ys.length xs.length := by rw [List.length_take]; omega
    have hcl : (news.take xs.length).length = min ys.length xs.length := by rw [List.length_take]; omega
    obtain ⟨g, cap, w', F', hv, hr, hi', hk⟩ := write_own (P := P) hinv hsz hj 0 (ys.take xs.length) (by omega) (by omega) (news.take xs.length) (by omega) (fun i z hz => by
      rw [List.getElem?_take] at hz
      split at hz
      · rename_i hi
        obtain ⟨vs, k1, k2⟩ := g3 i z hz
        have hl1 : vs.length = 1 := by rw [← k1.length, c.len, hsz]
        obtain ⟨u', rfl⟩ : ∃ u, vs = [u] := List.length_eq_one_iff.1 hl1
        have := k2 0 u' rfl
        rw [hsz, Nat.mul_one, Nat.add_zero] at this
        exact ⟨u', by rw [List.getElem?_take, if_pos hi]; exact this, k1⟩
      · cases hz) (fun z hz => g4 z (List.mem_of_mem_take hz))
    have e5 : xs.take 0 ++ ys.take xs.length ++ xs.drop (0 + (ys.take xs.length).length) = ys.take xs.length ++ xs.drop ys.length := by
      rw [List.take_zero, List.nil_append, Nat.zero_add, hml]
      congr 1
      rcases Nat.le_total ys.length xs.length with hle | hle
      · rw [Nat.min_eq_left hle]
      · rw [Nat.min_eq_right hle, List.drop_length, List.drop_of_length_le hle]
    rw [e5] at hi'
    refine ⟨.int .i64 ((min ys.length xs.length : Nat) : Int), w', (), F', Z, ?_, hi', fun _ x => x, hk, rfl⟩
    have hlc := run_loadCells_list (P := P) w a (news.take xs.length) (fun i u hiu => by
      rw [List.getElem?_take] at hiu
      split at hiu
      · exact g2 i u hiu
      · cases hiu)
    rw [hcl] at hlc
    have hmin : Nat.min ys.length xs.length = min ys.length xs.length := rfl
    simp [execOp, ho, hty, e1, e2, hv, resolve, invoke, builtin, Builtin.copy_, run_underlying ht, hs _, Builtin.lenOf, Builtin.firstCells, hmin, Sem.run_bind, hlc, hr, goInt]

/-- copy of the front of a slice of the call's own behind itself. -/
theorem sCopyV [Inhabited T] {y u : Operand} {lo : Nat} (ht : P.underlying t = some (.slice e)) (hs : SizeIs P e 1) (hsz : c.sz = 1) (hy : arg fr y = some (.vwl v lo)) (hj : H[j]? = some (.own t0 c v xs)) (hu : arg fr u = some (.vwr v lo)) (hdn : Nat.blt d n = true)
    (h : SimL P f n ops l k ((d, Ai .i64 ((min lo (xs.length - lo) : Nat) : Int)) :: fr) (H.set j (.own t0 c v (xs.take lo ++ xs.take (min lo (xs.length - lo)) ++ xs.drop (lo + min lo (xs.length - lo))))) x X K) : SimL P f n ops (⟨some d, .call ⟨.builtin .copy, #[y, u], #[t, t']⟩, ty, pos, aft, none⟩ :: l) k fr H x X K := by
  refine sEff (I := Unit) (av := fun _ => Ai .i64 ((min lo (xs.length - lo) : Nat) : Int)) (H' := fun _ => H.set j (.own t0 c v (xs.take lo ++ xs.take (min lo (xs.length - lo)) ++ xs.drop (lo + min lo (xs.length - lo))))) (fun o ho hty w0 F0 Z0 w F Z ρ hinv hf => ?_) hdn (fun _ => h)
  obtain ⟨A, q1, m, e1, h1, h2, e2⟩ := hf (by simp [Op.operands, Call.operands]) hy
  obtain ⟨A', q2, m', e3, h3, e4⟩ := hf (by simp [Op.operands, Call.operands]) hu
  obtain ⟨F1, hown, _⟩ := hinv.res.at hj
  obtain ⟨B, q, e5, hq⟩ := own_room hown
  rw [e5] at e1 e3
  simp only [Value.slice.injEq] at e1 e3
  obtain ⟨rfl, rfl, rfl⟩ := e1
  obtain ⟨rfl, _, rfl⟩ := e3
  by_cases hz : min lo (xs.length - lo) = 0
  · have e6 : xs.take lo ++ xs.take (min lo (xs.length - lo)) ++ xs.drop (lo + min lo (xs.length - lo)) = xs := by
      rw [hz, List.take_zero, List.append_nil, Nat.add_zero, List.take_append_drop]
    have hset : H.set j (.own t0 c v (xs.take lo ++ xs.take (min lo (xs.length - lo)) ++ xs.drop (lo + min lo (xs.length - lo)))) = H := by
      rw [e6]
      apply List.ext_getElem?
      intro i
      rw [List.getElem?_set]
      by_cases hij : j = i
      · subst hij
        rw [if_pos rfl]
        split
        · exact hj.symm
        · rename_i hlt; rw [List.getElem?_eq_none (by omega)]
      · rw [if_neg hij]
    refine ⟨.int .i64 0, w, (), F, Z, ?_, by rw [hset]; exact hinv, fun _ x => x, Keep.refl _ _, by rw [hz]; rfl⟩
    have hmin : Nat.min lo (xs.length - lo) = 0 := hz
    by_cases hm : q = lo
    · cases B <;> simp [execOp, ho, hty, e2, e4, hm, resolve, invoke, builtin, Builtin.copy_, run_underlying ht, hs _, Builtin.lenOf, Builtin.firstCells, hmin, storeCells, Sem.run_bind, goInt, loadCells, loadCellsFrom]
      all_goals (have : Nat.min lo (xs.length - lo) = 0 := hz; simp_all [storeCells, loadCells, loadCellsFrom, Sem.run_bind, goInt])
    · cases B <;> simp [execOp, ho, hty, e2, e4, hm, resolve, invoke, builtin, Builtin.copy_, run_underlying ht, hs _, Builtin.lenOf, Builtin.firstCells, hmin, storeCells, Sem.run_bind, goInt, loadCells, loadCellsFrom]
  · have hml : (xs.take (min lo (xs.length - lo))).length = min lo (xs.length - lo) := by rw [List.length_take]; omega
    obtain ⟨g, cap, cur, hv, ⟨fz, hh, hfz⟩, hcap, hmx, hsize, hF, hrows⟩ := own_cells hown (by omega)
    rw [hsz, Nat.mul_one] at hsize
    have hcl : (cur.toList.take (min lo (xs.length - lo))).length = min lo (xs.length - lo) := by
      have hct : cur.toList.length = cur.size := Array.length_toList
      rw [List.length_take]; omega
    have cellOf : ∀ i z, xs[i]? = some z → ∃ u, cur.toList[i]? = some u ∧ AllP Z w (c.e z) [u] := fun i z hiz => by
      have hil : i < xs.length := (List.getElem?_eq_some_iff.1 hiz).1
      obtain ⟨vs, k1, k2⟩ := hrows i z hiz
      have hl1 : vs.length = 1 := by rw [← k1.length, c.len, hsz]
      obtain ⟨u', rfl⟩ : ∃ u, vs = [u] := List.length_eq_one_iff.1 hl1
      have := k2 0 u' rfl
      rw [hsz, Nat.mul_one, Nat.mul_one, Nat.add_zero, List.getElem?_take, if_pos hil] at this
      exact ⟨u', this, k1⟩
    obtain ⟨g', cap', w', F', hv', hr, hi', hk⟩ := write_own (P := P) hinv hsz hj lo (xs.take (min lo (xs.length - lo))) (by omega) (by omega) (cur.toList.take (min lo (xs.length - lo))) (by omega) (fun i z hz => by
      rw [List.getElem?_take] at hz
      split at hz
      · rename_i hi
        obtain ⟨u', k1, k2⟩ := cellOf i z hz
        exact ⟨u', by rw [List.getElem?_take, if_pos hi]; exact k1, k2⟩
      · cases hz) (fun z hz => by
      obtain ⟨i, hi, rfl⟩ := List.getElem_of_mem hz
      have hi2 : i < xs.length := by omega
      obtain ⟨u', k1, k2⟩ := cellOf i xs[i] (List.getElem?_eq_getElem hi2)
      have e7 : (cur.toList.take (min lo (xs.length - lo)))[i] = u' := by
        have := List.getElem?_eq_getElem hi
        rw [List.getElem?_take, if_pos (by omega), k1] at this
        exact (Option.some.inj this).symm
      rw [e7]
      exact k2.oneL (c.one _) u' (.head _))
    rw [hv] at hv'; cases hv'
    rw [hml] at hi'
    rw [hv] at e5; cases e5
    refine ⟨.int .i64 ((min lo (xs.length - lo) : Nat) : Int), w', (), F', Z, ?_, hi', fun _ x => x, hk, rfl⟩
    have hlc := run_loadCells_list (P := P) w ⟨g, 0, none⟩ (cur.toList.take (min lo (xs.length - lo))) (fun i u hiu => by
      rw [Addr.add_lit, cell_of_row w g _ cur t0 fz hh]
      rw [List.getElem?_take] at hiu
      split at hiu
      · simpa using hiu
      · cases hiu)
    rw [hcl] at hlc
    have hne : q ≠ lo := by omega
    have hmin : Nat.min lo (xs.length - lo) = min lo (xs.length - lo) := rfl
    have hadd : (⟨g, 0, none⟩ : Addr).add lo = ⟨g, lo, none⟩ := by rw [Addr.add_lit, Nat.zero_add]
    simp [execOp, ho, hty, e2, e4, hne, resolve, invoke, builtin, Builtin.copy_, run_underlying ht, hs _, Builtin.lenOf, Builtin.firstCells, hmin, Sem.run_bind, hlc, hadd, hr, goInt]

/-! ### Queues: one cell an element -/
/-- A slice of the call's own that may begin within its memory. -/
def Res.qu {T : Type} (t : TypeId) (c : Co T) (v : Value) (xs : List T) : Res :=
  ⟨fun Z w F => (∃ g o cap, ∃ cur : Array Value, v = .slice (some ⟨g, o, none⟩) xs.length cap ∧ RowAt w g cur t ∧ xs.length ≤ cap ∧ cap ≤ maxLen ∧ o + cap = cur.size ∧ F g ∧ ∀ (i : Nat) (x : T), xs[i]? = some x → ∃ u, cur.toList[o + i]? = some u ∧ AllP Z w (c.e x) [u]) ∨ (xs = [] ∧ ∃ A, v = .slice A 0 0),
   fun hz hk h => h.imp (fun ⟨g, o, cap, cur, h1, ⟨fz, h2, h2'⟩, h3, h4, h5, h6, h7⟩ => ⟨g, o, cap, cur, h1, ⟨fz, (hk g (.inr h6)).trans h2, h2'⟩, h3, h4, h5, h6, fun i x hx => let ⟨u, a, b⟩ := h7 i x hx; ⟨u, a, b.st hz fun b hb => hk b (.inl hb)⟩⟩) id⟩
theorem qu_of_own {Z F : Nat → Prop} {w : World} (hsz : c.sz = 1) (h : (Res.own t0 c v xs).h Z w F) : (Res.qu t0 c v xs).h Z w F := by
  obtain ⟨cs, ⟨hl, ho⟩, hb, hr⟩ | h := h
  · rcases ho with ⟨hv, hn⟩ | ⟨g, cap, cur, hv, hg, hrow, hcap, hm, hcs, htk⟩
    · exact .inr ⟨List.length_eq_zero_iff.1 hn, none, by rw [hv]⟩
    · rw [hsz, Nat.mul_one] at hcs htk
      refine .inl ⟨g, 0, cap, cur, hv, hrow, hcap, hm, by omega, hb g (by rw [hv]; rfl), fun i x hx => ?_⟩
      have hil : i < xs.length := (List.getElem?_eq_some_iff.1 hx).1
      obtain ⟨vs, k1, k2⟩ := hr i x hx
      have hl1 : vs.length = 1 := by rw [← k1.length, c.len, hsz]
      obtain ⟨u', rfl⟩ : ∃ u, vs = [u] := List.length_eq_one_iff.1 hl1
      have := k2 0 u' rfl
      rw [hsz, Nat.mul_one, Nat.add_zero, ← htk, List.getElem?_take, if_pos hil] at this
      exact ⟨u', by rw [Nat.zero_add]; exact this, k1⟩
  · exact .inr h
theorem sQue {todo : List Item} (j : Nat) (hsz : c.sz = 1) (hj : H[j]? = some (.own t0 c v xs)) (h : Sim P f n todo fr (H.set j (.qu t0 c v xs)) x X K) : Sim P f n todo fr H x X K := sTurn j hj (fun _ _ _ => qu_of_own hsz) h
theorem sQueL (j : Nat) (hsz : c.sz = 1) (hj : H[j]? = some (.own t0 c v xs)) (h : SimL P f n ops l k fr (H.set j (.qu t0 c v xs)) x X K) : SimL P f n ops l k fr H x X K := fun is hs => sQue j hsz hj (h is hs)
theorem qu_sv {Z F : Nat → Prop} {w : World} (h : (Res.qu t0 c v xs).h Z w F) : ∃ A m, v = .slice A xs.length m := by
  obtain ⟨g, o, cap, cur, hv, _⟩ | ⟨rfl, A, rfl⟩ := h
  · exact ⟨_, _, hv⟩
  · exact ⟨A, 0, rfl⟩
theorem dLenU {y : Operand} (ht : P.underlying t = some (.slice e)) (hy : arg fr y = some (.sv v)) (hj : H[j]? = some (.qu t0 c v xs)) : D P n H (.call ⟨.builtin .len, #[y], #[t]⟩) ty fr (Ai .i64 xs.length) :=
  .of fun o ho hty w Z F ρ hH hf => by
    obtain ⟨h1, _⟩ := hf (by simp [Op.operands, Call.operands]) hy
    obtain ⟨F1, h, _⟩ := hH.at hj
    obtain ⟨A, m, e1⟩ := qu_sv h
    rw [e1] at h1
    exact ⟨.int .i64 xs.length, by simp [execOp, ho, h1, resolve, invoke, builtin, Builtin.len_, run_underlying ht, goInt, Sem.run_bind], rfl⟩
theorem dIxU {y z : Operand} {kd : IntKind} {i : Int} (ht : P.underlying t = some (.slice e)) (hsz : SizeIs P e c.sz) (hy : arg fr y = some (.sv v)) (hj : H[j]? = some (.qu t0 c v xs)) (hz : arg fr z = some (Ai kd i)) (h0 : 0 ≤ i) (h1 : i < xs.length) : D P n H (.indexAddr t y z) ty fr (.ep v (i.toNat * c.sz)) :=
  .of fun o ho hty w Z F ρ hH hf => by
    obtain ⟨e1, _⟩ := hf (by simp [Op.operands]) hy
    have e2 : ρ z = _ := hf (by simp [Op.operands]) hz
    obtain ⟨F1, h, _⟩ := hH.at hj
    obtain ⟨g, of, cap, cur, hv, _⟩ | ⟨rfl, A, rfl⟩ := h
    · rw [hv] at e1
      refine ⟨.pointer (some ((⟨g, of, none⟩ : Addr).add (i.toNat * c.sz))), ?_, _, _, _, hv, rfl⟩
      simp [execOp, ho, e1, e2, Instr.indexAt, run_underlying ht, hsz _, Sem.run_bind, asIntOf, h0, h1]
    · simp at h1; omega
theorem dLdU [Inhabited T] {y : Operand} {m : Nat} {a : AV} (i : Int) (hg : IsAgg P t false) (hsz : c.sz = 1) (hy : arg fr y = some (.ep v m)) (hj : H[j]? = some (.qu t0 c v xs)) (hm : m = i.toNat * c.sz) (h0 : 0 ≤ i) (h1 : i < xs.length) (ha : (c.e (rd xs i))[0]? = some a) : D P n H (.load t y) ty fr a :=
  .of fun o ho hty w Z F ρ hH hf => by
    obtain ⟨ad, q, c', e1, e2⟩ := hf (by simp [Op.operands]) hy
    obtain ⟨F1, h, _⟩ := hH.at hj
    obtain ⟨g, of, cap, cur, hv, ⟨fz, hh, _⟩, _, _, _, _, h7⟩ | ⟨rfl, A, rfl⟩ := h
    · rw [hv] at e1; simp at e1
      obtain ⟨rfl, _, _⟩ := e1
      obtain ⟨u, h3, h4⟩ := h7 i.toNat _ (rd_get h0 h1)
      obtain ⟨u', hu, hp⟩ := h4.get ha
      simp at hu; subst hu
      exact ⟨u, by simp [execOp, ho, e2, load_one (a := (⟨g, of, none⟩ : Addr).add m) (v := u) hg (by rw [Addr.add_lit, cell_of_row _ _ _ _ _ _ hh, hm, hsz, Nat.mul_one]; simpa using h3), Sem.run_bind], hp⟩
    · simp at h1; omega
/-- The front is cut off. -/
theorem sPopU {y a : Operand} {ka : IntKind} {i : Int} (ht : P.underlying t = some (.slice e)) (hs : SizeIs P e 1) (hy : arg fr y = some (.sv v)) (hj : H[j]? = some (.qu t0 c v xs)) (ha : arg fr a = some (Ai ka i)) (h0 : 0 ≤ i) (h1 : i ≤ xs.length) (hdn : Nat.blt d n = true)
    (h : ∀ v', SimL P f n ops l k ((d, .sv v') :: fr) (H.set j (.qu t0 c v' (xs.drop i.toNat))) x X K) : SimL P f n ops (⟨some d, .slice t y (some a) none none, ty, pos, aft, none⟩ :: l) k fr H x X K := by
  refine sEff (I := Value) (fun o ho hty w0 F0 Z0 w F Z ρ hinv hf => ?_) hdn h
  obtain ⟨e1, _⟩ := hf (by simp [Op.operands]) hy
  have e2 : ρ a = _ := hf (by simp [Op.operands]) ha
  obtain ⟨F1, hq, _⟩ := hinv.res.at hj
  have hr : ∃ v', (Instr.sliceAt t v (some (.int ka i)) none none).run P w = .ok v' w ∧ (∃ A n m, v' = .slice A n m) ∧ ∀ G, (Res.qu t0 c v xs).h Z w G → (Res.qu t0 c v' (xs.drop i.toNat)).h Z w G := by
    obtain ⟨A, m, hv⟩ := qu_sv hq
    refine ⟨.slice (if m = i.toNat then A else A.map (·.add i.toNat)) (xs.length - i.toNat) (m - i.toNat), ?_, ⟨_, _, _, rfl⟩, fun G hG => ?_⟩
    · rw [hv]
      simp [Instr.sliceAt, Instr.slice, Instr.sliceBounds, Instr.sliceBound, run_underlying ht, hs _, Sem.run_bind, asIntOf, h0, h1]
    · obtain ⟨g, of, cap, cur, hv', hrow, hcap, hmx, hsize, hF, h7⟩ | ⟨rfl, B, hv'⟩ := hG
      · rw [hv] at hv'; cases hv'
        have hlen : (xs.drop i.toNat).length = xs.length - i.toNat := by simp
        by_cases hm : m = i.toNat
        · refine .inr ⟨List.drop_eq_nil_of_le (by omega), some ⟨g, of, none⟩, ?_⟩
          rw [if_pos hm]
          have : xs.length - i.toNat = 0 := by omega
          rw [this]; congr 1; omega
        · refine .inl ⟨g, of + i.toNat, m - i.toNat, cur, ?_, hrow, by rw [hlen]; omega, by omega, by omega, hF, fun q z hz => ?_⟩
          · rw [if_neg hm, hlen]; simp [Addr.add_lit]
          · rw [List.getElem?_drop] at hz
            obtain ⟨u, k1, k2⟩ := h7 _ z hz
            exact ⟨u, by rw [← k1]; congr 1; omega, k2⟩
      · rw [hv] at hv'; cases hv'
        have h9 : i.toNat = 0 := by simp only [List.length_nil] at h1; omega
        refine .inr ⟨by simp, A, ?_⟩
        rw [h9]
        rfl
  obtain ⟨v', hr1, hsl, hr2⟩ := hr
  obtain ⟨F', hi', hk⟩ := hinv.turn (w' := w) (r' := .qu t0 c v' (xs.drop i.toNat)) hj fun G hG _ => ⟨G, Step.refl _ _, hr2 G hG, fun _ y => .inl y⟩
  exact ⟨v', w, v', F', Z, by simp [execOp, ho, e1, e2, hr1, Sem.run_bind], hi', fun _ y => y, hk, rfl, hsl⟩
/-- Elements are put to a queue. -/
theorem sApU {y u : Operand} {ys : List T} {z : Value} {bytes : Nat} (hsz : c.sz = 1) (ht : P.underlying t = some (.slice e)) (hinfo : Info P e z c.sz bytes) (hzs : z.cells.size = c.sz) (hy : arg fr y = some (.sv v)) (hj : H[j]? = some (.qu e c v xs)) (hu : arg fr u = some (.fsl c ys)) (hys : ys ≠ []) (hb : (xs.length + ys.length) * bytes ≤ 140737488355328) (hb0 : Nat.blt 0 bytes = true) (hdn : Nat.blt d n = true)
    (h : ∀ v', SimL P f n ops l k ((d, .sv v') :: fr) (H.set j (.qu e c v' (xs ++ ys))) x X K) : SimL P f n ops (⟨some d, .call ⟨.builtin .append, #[y, u], #[t, t]⟩, ty, pos, aft, none⟩ :: l) k fr H x X K := by
  refine sEff (I := Value) (fun o ho hty w0 F0 Z0 w F Z ρ hinv hf => ?_) hdn h
  obtain ⟨e1, _⟩ := hf (by simp [Op.operands, Call.operands]) hy
  obtain ⟨A, m, e2, hA, hA'⟩ := cells_fsl (hf (by simp [Op.operands, Call.operands]) hu)
  obtain ⟨a, rfl⟩ : ∃ a, A = some a := by
    cases A with
    | none => exact absurd (hA rfl) hys
    | some a => exact ⟨a, rfl⟩
  obtain ⟨news, g1, g2, g3, g4⟩ := hA' a rfl
  obtain ⟨F1, hq, _⟩ := hinv.res.at hj
  obtain ⟨i, i1, i2, i3, i4⟩ := hinfo.parts
  have hb0' : 0 < bytes := by simpa [Nat.blt_eq] using hb0
  have hle : (xs.length + ys.length) * 1 ≤ (xs.length + ys.length) * bytes := Nat.mul_le_mul_left _ hb0'
  have hyl : 0 < ys.length := List.length_pos_iff.2 hys
  have newOf : ∀ (q : Nat) (z : T), ys[q]? = some z → ∃ u, news[q]? = some u ∧ AllP Z w (c.e z) [u] := fun q z hz => by
    obtain ⟨vs, k1, k2⟩ := g3 q z hz
    have hl1 : vs.length = 1 := by rw [← k1.length, c.len, hsz]
    obtain ⟨u', rfl⟩ : ∃ u, vs = [u] := List.length_eq_one_iff.1 hl1
    have := k2 0 u' rfl
    rw [hsz, Nat.mul_one, Nat.add_zero] at this
    exact ⟨u', this, k1⟩
  have g1' : news.length = ys.length := by rw [g1, hsz, Nat.mul_one]
  have grown : ∀ (vs : List Value) (cap : Nat) (B : Addr), vs.length = xs.length → (∀ j u, vs[j]? = some u → w.cell? (B.add j) = some u) → xs.length ≤ cap → ¬ xs.length + ys.length ≤ cap → (∀ (q : Nat) (z : T), xs[q]? = some z → ∃ u, vs[q]? = some u ∧ AllP Z w (c.e z) [u]) → v = .slice (some B) xs.length cap →
      ∃ v' w' F', (Builtin.append_ #[t, t] ty #[v, .slice (some a) ys.length m]).run P w = .ok v' w' ∧ Inv w0 w' F0 Z0 F' Z (H.set j (.qu e c v' (xs ++ ys))) ∧ Keep Z w w' ∧ ∃ A n m, v' = .slice A n m := by
    intro vs cap B hvl holds hcap hroom hvs hv
    have hr := run_append_grow (P := P) w t ty e i z ht i1 i2 B xs.length cap vs (by rw [i3, hsz]; omega) holds a ys.length m news (by rw [i3, hsz]; omega) g2 (by omega) (by omega) (growslice_fits (by omega) (by rw [i4]; exact hb))
    rw [← hv] at hr
    have hge := grownCap_ge w (xs.length + ys.length) cap e
    have hcm := grownCap_le_maxLen w (xs.length + ys.length) cap e (by rw [mx]; omega)
    obtain ⟨F', hi', hk⟩ := hinv.turn (w' := w.drew.alloc (.cells (vs.toArray ++ news.toArray ++ Builtin.zeroCells z.cells (grownCap w (xs.length + ys.length) cap e - (xs.length + ys.length))) e)) (r' := .qu e c (.slice (some ⟨w.heap.size, 0, none⟩) (xs.length + ys.length) (grownCap w (xs.length + ys.length) cap e)) (xs ++ ys)) hj fun G hG hz1 => by
      have s : Step w (w.drew.alloc (.cells (vs.toArray ++ news.toArray ++ Builtin.zeroCells z.cells (grownCap w (xs.length + ys.length) cap e - (xs.length + ys.length))) e)) G := ⟨rfl, rfl, rfl, Nat.le_succ _, by simp, fun b hb _ => Below.heap_alloc w.drew _ b hb⟩
      have hkz : Keep Z w (w.drew.alloc (.cells (vs.toArray ++ news.toArray ++ Builtin.zeroCells z.cells (grownCap w (xs.length + ys.length) cap e - (xs.length + ys.length))) e)) := fun b hz => s.keep b (hz1 b hz).1 (hz1 b hz).2
      refine ⟨fun b => b = w.heap.size, s, .inl ⟨w.heap.size, 0, _, _, by rw [List.length_append], .new (heap_alloc_new w.drew _), by rw [List.length_append]; exact hge, hcm, ?_, rfl, fun q z hz => ?_⟩, fun b hb => .inr (by subst hb; exact ⟨Nat.le_refl _, by simp⟩)⟩
      · simp only [Array.size_append, List.size_toArray, size_zeroCells, hzs, hsz, Nat.mul_one, hvl, g1']; omega
      · rw [Nat.zero_add]
        simp only [Array.toList_append]
        rw [List.append_assoc]
        by_cases hlt : q < xs.length
        · rw [List.getElem?_append_left hlt] at hz
          obtain ⟨u, k1, k2⟩ := hvs q z hz
          exact ⟨u, by rw [List.getElem?_append_left (by omega)]; exact k1, k2.st (fun _ y => y) hkz⟩
        · rw [List.getElem?_append_right (by omega)] at hz
          obtain ⟨u, k1, k2⟩ := newOf _ z hz
          have hq2 : q - xs.length < ys.length := (List.getElem?_eq_some_iff.1 hz).1
          exact ⟨u, by rw [List.getElem?_append_right (by omega), hvl, List.getElem?_append_left (by omega)]; exact k1, k2.st (fun _ y => y) hkz⟩
    exact ⟨_, _, F', hr, hi', hk, _, _, _, rfl⟩
  have main : ∃ v' w' F', (Builtin.append_ #[t, t] ty #[v, .slice (some a) ys.length m]).run P w = .ok v' w' ∧ Inv w0 w' F0 Z0 F' Z (H.set j (.qu e c v' (xs ++ ys))) ∧ Keep Z w w' ∧ ∃ A n m, v' = .slice A n m := by
    obtain ⟨g, of, cap, cur, hv, ⟨fz, hh, hfz⟩, hcap, hmx, hsize, hF, h7⟩ | ⟨rfl, B, hv⟩ := id hq
    · by_cases hroom : xs.length + ys.length ≤ cap
      · have hf := run_firstCells_some (P := P) w i.size ys.length a ys.length m news (by rw [i3, hsz]; omega) g2
        have hst := run_storeCells_fz (P := P) g (of + xs.length) e fz news 0 cur w hh hfz (by omega) g4
        simp only [Nat.add_zero] at hst
        have hr : (Builtin.append_ #[t, t] ty #[v, .slice (some a) ys.length m]).run P w = .ok (.slice (some ⟨g, of, none⟩) (xs.length + ys.length) cap) (w.setRow g (cur.toList.take (of + xs.length) ++ news ++ cur.toList.drop (of + xs.length + news.length)).toArray) := by
          have hsz1 : i.size = 1 := by rw [i3, hsz]
          rw [hv]
          rw [hsz1] at hf
          simp [Builtin.append_, run_underlying ht, sizeOf, typeInfo, i1, Builtin.lenOf, hroom, hf, Addr.add_lit, hst, hsz1]
        have hsame : (cur.toList.take (of + xs.length) ++ news ++ cur.toList.drop (of + xs.length + news.length)).toArray.size = cur.size := by
          have hct : cur.toList.length = cur.size := Array.length_toList
          simp only [List.size_toArray, List.length_append, List.length_take, List.length_drop]; omega
        obtain ⟨F', hi', hk⟩ := hinv.turn (w' := w.setRow g (cur.toList.take (of + xs.length) ++ news ++ cur.toList.drop (of + xs.length + news.length)).toArray) (r' := .qu e c (.slice (some ⟨g, of, none⟩) (xs.length + ys.length) cap) (xs ++ ys)) hj fun G hG hz1 => by
          have hFG : G g := by
            obtain ⟨g', of', cap', cur', hv', _, _, _, _, hF', _⟩ | ⟨hx, B, hv'⟩ := hG
            · rw [hv] at hv'; cases hv'; exact hF'
            · rw [hv] at hv'; simp only [Value.slice.injEq] at hv'; omega
          have s := Step.setRow w g (cur.toList.take (of + xs.length) ++ news ++ cur.toList.drop (of + xs.length + news.length)).toArray G hFG
          have hkz : Keep Z w (w.setRow g (cur.toList.take (of + xs.length) ++ news ++ cur.toList.drop (of + xs.length + news.length)).toArray) := fun b hz => s.keep b (hz1 b hz).1 (hz1 b hz).2
          refine ⟨G, s, .inl ⟨g, of, cap, _, by rw [List.length_append], ⟨fz, setRow_heap w g cur _ e _ hh, by rw [hsame]; exact hfz⟩, by rw [List.length_append]; exact hroom, hmx, by rw [hsame]; exact hsize, hFG, fun q z hz => ?_⟩, fun _ y => .inl y⟩
          have hct : cur.toList.length = cur.size := Array.length_toList
          by_cases hlt : q < xs.length
          · rw [List.getElem?_append_left hlt] at hz
            obtain ⟨u, k1, k2⟩ := h7 q z hz
            refine ⟨u, ?_, k2.st (fun _ y => y) hkz⟩
            show (cur.toList.take (of + xs.length) ++ _ ++ _)[of + q]? = _
            rw [List.append_assoc, List.getElem?_append_left (by rw [List.length_take]; omega), List.getElem?_take, if_pos (by omega)]; exact k1
          · rw [List.getElem?_append_right (by omega)] at hz
            obtain ⟨u, k1, k2⟩ := newOf _ z hz
            have hq2 : q - xs.length < ys.length := (List.getElem?_eq_some_iff.1 hz).1
            refine ⟨u, ?_, k2.st (fun _ y => y) hkz⟩
            show (cur.toList.take (of + xs.length) ++ _ ++ _)[of + q]? = _
            rw [List.append_assoc]
            have hl4 : (cur.toList.take (of + xs.length)).length = of + xs.length := by rw [List.length_take]; omega
            rw [List.getElem?_append_right (by omega), hl4, List.getElem?_append_left (by omega), ← k1]; congr 1; omega
        exact ⟨_, _, F', hr, hi', hk, _, _, _, rfl⟩
      · have hct : cur.toList.length = cur.size := Array.length_toList
        refine grown ((cur.toList.drop of).take xs.length) cap ⟨g, of, none⟩ (by rw [List.length_take, List.length_drop]; omega) (fun q u hu => ?_) hcap hroom (fun q z hz => ?_) hv
        · rw [List.getElem?_take] at hu
          split at hu
          · rw [List.getElem?_drop] at hu
            rw [Addr.add_lit, cell_of_row w g _ cur e fz hh]
            simpa using hu
          · cases hu
        · obtain ⟨u, k1, k2⟩ := h7 q z hz
          have hq2 : q < xs.length := (List.getElem?_eq_some_iff.1 hz).1
          exact ⟨u, by rw [List.getElem?_take, if_pos hq2, List.getElem?_drop]; exact k1, k2⟩
    · -- no memory at all
      cases B with
      | some B => exact grown [] 0 B rfl (by simp) (Nat.le_refl _) (by simp only [List.length_nil] at *; omega) (by simp) hv
      | none =>
        have hr := run_append_nil (P := P) w t ty e i z ht i1 i2 a ys.length m news (by rw [i3, hsz]; omega) g2 (by omega) (by omega) (by rw [i4]; simp only [List.length_nil, Nat.zero_add] at hb; omega)
        subst hv
        have hge := grownCap_ge w (0 + ys.length) 0 e
        have hcm := grownCap_le_maxLen w (0 + ys.length) 0 e (by rw [mx]; omega)
        obtain ⟨v', w', r1, r2, r3, r5⟩ := run_append_row (P := P) w t ty e i z c.sz bytes ht i1 i2 i3 i4 hzs c.pos (.slice none 0 0) 0 [] ⟨by simp, .inl ⟨rfl, rfl⟩⟩ a ys.length m news g1 g2 g4 (by rw [mx]; omega) (by simpa using hb)
        obtain ⟨F', hi', hk⟩ := hinv.turn (w' := w') (r' := .qu e c v' ([] ++ ys)) hj fun G hG hz1 => by
          have s := Step.of_grown r3 (run_drawn _ r1) G (by intro k hk; cases hk)
          have hkz : Keep Z w w' := fun b hz => s.keep b (hz1 b hz).1 (hz1 b hz).2
          refine ⟨fun b => w.heap.size ≤ b ∧ b < w'.heap.size, s, qu_of_own hsz (.inl ⟨[] ++ news, by simpa using r2, fun b hb => ?_, ?_⟩), fun b hb => .inr hb⟩
          · rcases r5 with e5 | e5
            · rw [e5] at hb; cases hb
            · rw [e5] at hb; cases hb
              refine ⟨Nat.le_refl _, ?_⟩
              rcases r2.2 with ⟨hv, _⟩ | ⟨g, cap, cur, hv, _, hh, _⟩
              · rw [hv] at e5; cases e5
              · rw [hv] at e5; simp [Value.ownBlock] at e5; subst e5
                obtain ⟨fz, hh, _⟩ := hh
                exact (Array.getElem?_eq_some_iff.1 hh).1
          · simpa using g3.st (fun _ y => y) hkz
        refine ⟨v', w', F', r1, hi', hk, ?_⟩
        rcases r2.2 with ⟨hv, _⟩ | ⟨g, cap, cur, hv, _⟩
        · exact ⟨_, _, _, hv⟩
        · exact ⟨_, _, _, hv⟩
  obtain ⟨v', w', F', hr, hi', hk, hsl⟩ := main
  exact ⟨v', w', v', F', Z, by simp [execOp, ho, hty, e1, e2, hr, resolve, invoke, builtin, Sem.run_bind], hi', fun _ y => y, hk, rfl, hsl⟩

/-! ### Nil just if empty -/
def Res.ownN {T : Type} (t : TypeId) (c : Co T) (v : Value) (xs : List T) : Res :=
  ⟨fun Z w F => (Res.own t c v xs).h Z w F ∧ (xs = [] → v = .slice none 0 0), fun hz hk h => ⟨Res.st _ hz hk h.1, h.2⟩⟩
theorem sNilN {todo : List Item} (u : Nat) (e : TypeId) (c : Co T) (hu : look fr u = some (.lit (.slice none 0 0))) (h : ∀ v, Sim P f n todo ((u, .sv v) :: fr) (.ownN e c v [] :: H) x X K) : Sim P f n todo fr H x X K := by
  intro r hr w0 F0 Z0 w F Z tmps hn hi hf
  refine h (.slice none 0 0) r hr w0 F0 Z0 w F Z tmps hn ?_ fun t a ht => ?_
  · refine ⟨hi.base, hi.z0, hi.zin, hi.fin, fun _ => False, F, ⟨.inr ⟨rfl, none, rfl⟩, fun _ => rfl⟩, hi.res, fun b hb => hb.elim, fun b hb => hb⟩
  · simp only [look] at ht
    by_cases e : u = t
    · subst e; simp at ht; subst ht
      exact ⟨hf u _ hu, _, _, _, rfl⟩
    · have : (u == t) = false := by simpa using e
      rw [this] at ht; exact hf t a (by simpa using ht)
theorem sOwnN {todo : List Item} (j : Nat) (hj : H[j]? = some (.own t0 c v xs)) (hx : xs ≠ []) (h : Sim P f n todo fr (H.set j (.ownN t0 c v xs)) x X K) : Sim P f n todo fr H x X K := sTurn (r' := .ownN t0 c v xs) j hj (fun _ _ _ h => ⟨h, fun e => absurd e hx⟩) h
theorem sNOwn {todo : List Item} (j : Nat) (hj : H[j]? = some (.ownN t0 c v xs)) (h : Sim P f n todo fr (H.set j (.own t0 c v xs)) x X K) : Sim P f n todo fr H x X K := sTurn j hj (fun _ _ _ h => h.1) h
theorem sNOwnL (j : Nat) (hj : H[j]? = some (.ownN t0 c v xs)) (h : SimL P f n ops l k fr (H.set j (.own t0 c v xs)) x X K) : SimL P f n ops l k fr H x X K := fun is hs => sNOwn j hj (h is hs)
theorem flOwnN {t : TypeId} {c : Co T} {xs : List T} (h : ∀ x, FlatL (c.e x)) : FlatR (.ownN t c v xs) := fun Z Z' w F hr => ⟨flOwn h Z Z' w F hr.1, hr.2⟩
theorem ownN_nil {Z F : Nat → Prop} {w : World} (h : (Res.ownN t0 c v xs).h Z w F) : ∃ A m, v = .slice A xs.length m ∧ A.isNone = decide (xs = []) := by
  obtain ⟨h1, h2⟩ := h
  by_cases hx : xs = []
  · rw [h2 hx, hx]; exact ⟨none, 0, rfl, by simp⟩
  · obtain ⟨g, cap, cur, hv, _⟩ := own_cells h1 (List.length_pos_iff.2 hx)
    exact ⟨_, _, hv, by simp [hx]⟩
theorem run_eqIn_nil (w : World) (d : Nat) {A : Option Addr} {m q : Nat} (ht : P.underlying t = some (.slice e)) : (Op.equalIn (d + 1) t (.slice A m q) (.slice none 0 0)).run P w = .ok A.isNone w := by
  cases A <;> simp [Op.equalIn, run_underlying ht]
theorem eql_nil {A : Option Addr} {m q : Nat} {w : World} (ht : P.underlying t = some (.slice e)) : (binOp .eql t (.slice A m q) (.slice none 0 0)).run P w = .ok (.bool A.isNone) w := by
  simp only [binOp, Op.equal, Op.maxDepth, Sem.run_bind, run_eqIn_nil w 9999 ht, Result.andThen_ok, Sem.run_pure]
theorem neq_nil {A : Option Addr} {m q : Nat} {w : World} (ht : P.underlying t = some (.slice e)) : (binOp .neq t (.slice A m q) (.slice none 0 0)).run P w = .ok (.bool (!A.isNone)) w := by
  simp only [binOp, Op.equal, Op.maxDepth, Sem.run_bind, run_eqIn_nil w 9999 ht, Result.andThen_ok, Sem.run_pure]
theorem dEqN {y : Operand} {t' : TypeId} (ht : P.underlying t = some (.slice e)) (hy : arg fr y = some (.sv v)) (hj : H[j]? = some (.ownN t0 c v xs)) : D P n H (.binOp .eql t y (.const (.slice none 0 0)) t') ty fr (Ab (decide (xs = []))) :=
  .of fun o ho hty w Z F ρ hH hf => by
    obtain ⟨e1, _⟩ := hf (by simp [Op.operands]) hy
    have e2 : ρ (.const (.slice none 0 0)) = _ := hf (a := .lit (.slice none 0 0)) (by simp [Op.operands]) rfl
    obtain ⟨F1, h, _⟩ := hH.at hj
    obtain ⟨A, m, hv, hA⟩ := ownN_nil h
    rw [hv] at e1
    exact ⟨.bool (decide (xs = [])), by simp [execOp, ho, e1, e2, eql_nil ht, hA, Sem.run_bind, eqGuard], rfl⟩
theorem dNeN {y : Operand} {t' : TypeId} (ht : P.underlying t = some (.slice e)) (hy : arg fr y = some (.sv v)) (hj : H[j]? = some (.ownN t0 c v xs)) : D P n H (.binOp .neq t y (.const (.slice none 0 0)) t') ty fr (Ab (decide (xs ≠ []))) :=
  .of fun o ho hty w Z F ρ hH hf => by
    obtain ⟨e1, _⟩ := hf (by simp [Op.operands]) hy
    have e2 : ρ (.const (.slice none 0 0)) = _ := hf (a := .lit (.slice none 0 0)) (by simp [Op.operands]) rfl
    obtain ⟨F1, h, _⟩ := hH.at hj
    obtain ⟨A, m, hv, hA⟩ := ownN_nil h
    rw [hv] at e1
    exact ⟨.bool (decide (xs ≠ [])), by simp [execOp, ho, e1, e2, neq_nil ht, hA, Sem.run_bind, eqGuard], rfl⟩
theorem lendT {as bs : List AV} (h : LendL H as bs) {Z F : Nat → Prop} {w : World} {u : Value} (hH : HAll H Z w F) (hp : (AV.tup as).p Z w u) : (AV.tup bs).p (fun b => Z b ∨ F b) w u := by
  obtain ⟨vs, e, h1⟩ := hp
  exact ⟨vs, e, lend_ok h hH h1⟩
/-- make, of memory that is read alone: a quiet operation. -/
theorem dMkQ {y : Operand} {kd : IntKind} {m : Int} {z : Value} {bytes : Nat} (z0 : T) (ht : P.underlying t = some (.slice e)) (hi : Info P e z c.sz bytes) (hz : ∀ Z w, AllP Z w (c.e z0) z.cells.toList) (hy : arg fr y = some (Ai kd m)) (h0 : 0 ≤ m) (hb : (bytes : Int) * m ≤ 281474976710656) (hb0 : Nat.blt 0 bytes = true) : D P n H (.makeSlice t y y) ty fr (.fsl c (List.replicate m.toNat z0)) := by
  intro o ho hty w0 F0 Z0 w F Z tmps hn hinv hf
  have e1 : (⟨tmps, []⟩ : Act).eval y = _ := arg_ok hf hy (by simp [Op.operands])
  obtain ⟨i, i1, i2, i3, i4⟩ := hi.parts
  obtain ⟨m', rfl⟩ := Int.eq_ofNat_of_zero_le h0
  have hb0' : 0 < bytes := by simpa [Nat.blt_eq] using hb0
  have hle : m' ≤ 281474976710656 := by
    have : (m' : Int) ≤ bytes * m' := by
      have : (1 : Int) * m' ≤ bytes * m' := Int.mul_le_mul_of_nonneg_right (by omega) (by omega)
      omega
    omega
  have hr := run_make (P := P) w t e i z ht i1 i2 kd kd m' m' (by omega) (Int.le_refl _) (by rw [i4]; exact hb) (by omega)
  simp only [Int.toNat_natCast, i3] at hr
  have hzl := (hz (fun _ => False) w).length
  rw [c.len] at hzl
  have s := Step.alloc w (.cells (madeCells z.cells (m' * c.sz)) e) (fun _ => False)
  refine .inl ⟨.slice (some ⟨w.heap.size, 0, none⟩) m' m', _, by simp [execOp, ho, e1, hr, Sem.run_bind], fun b => Z b ∨ b = w.heap.size, fun _ x => .inl x, fun b x => x.imp id fun e => by subst e; exact ⟨Nat.le_refl _, by simp⟩, s, ?_⟩
  have hown : (Res.own e c (.slice (some ⟨w.heap.size, 0, none⟩) m' m') (List.replicate (m' : Int).toNat z0)).h Z (w.alloc (.cells (madeCells z.cells (m' * c.sz)) e)) (fun b => b = w.heap.size) := by
    simp only [Int.toNat_natCast]
    refine .inl ⟨(madeCells z.cells (m' * c.sz)).toList, ⟨?_, .inr ⟨w.heap.size, m', madeCells z.cells (m' * c.sz), by simp, Nat.zero_le _, .new (heap_alloc_new w _), by simp, by rw [mx]; omega, size_madeCells _ _, ?_⟩⟩, fun b hb => ?_, ?_⟩
    · simp [size_madeCells]
    · rw [List.length_replicate, List.take_of_length_le (by simp [size_madeCells])]
    · simp [Value.ownBlock] at hb; exact hb.symm
    · intro r q hq
      rw [List.getElem?_replicate] at hq
      split at hq
      · rename_i hlt
        cases hq
        refine ⟨_, hz _ _, fun a u hu => ?_⟩
        have ha : a < z.cells.size := by
          rcases Nat.lt_or_ge a z.cells.size with h | h
          · exact h
          · simp [h] at hu
        have hsz : z.cells.size = c.sz := by simpa using hzl.symm
        have hlt2 : r * c.sz + a < m' * c.sz := by
          have : r * c.sz + c.sz ≤ m' * c.sz := by rw [← Nat.succ_mul]; exact Nat.mul_le_mul_right _ hlt
          omega
        have hmod : (r * c.sz + a) % z.cells.size = a := by rw [hsz, Nat.mul_comm, Nat.mul_add_mod]; exact Nat.mod_eq_of_lt (by omega)
        simp only [madeCells, Array.toList_map, List.getElem?_map, Array.toList_range, List.getElem?_range hlt2, Option.map_some, hmod]
        rw [Array.getElem?_toList] at hu
        rw [getElem!_pos z.cells a ha, ← hu, Array.getElem?_eq_getElem ha]
      · cases hq
  exact own_fsl hown
/-- A test on a constant. -/
theorem sCondKF {a b : Code} (h : Sim P f n (.code b :: k) fr H x X K) : Sim P f n (.code (.cond (.const (.bool false)) a b) :: k) fr H x X K := fun r hr w0 F0 Z0 w F Z tmps hn hi hf => .cond (t := false) rfl (h r hr w0 F0 Z0 w F Z tmps hn hi hf)
theorem sCondKT {a b : Code} (h : Sim P f n (.code a :: k) fr H x X K) : Sim P f n (.code (.cond (.const (.bool true)) a b) :: k) fr H x X K := fun r hr w0 F0 Z0 w F Z tmps hn hi hf => .cond (t := true) rfl (h r hr w0 F0 Z0 w F Z tmps hn hi hf)
end
end S
end Go.Proofs.Ytpjhcllohagjoaa
