/-
  Sim, the twelfth text: strings and bytes, interfaces, calls through function values, calls that write what their caller owns. Own work; no claim stands here.
-/
import Derived.Test.YtpjhcllohagjoaaSM
import Derived.Lib.AppendStr
import Derived.Laws.IdiomStrings
import Derived.Laws.BytesArg
namespace Go.Proofs.Ytpjhcllohagjoaa
namespace S
open Go.RowKit
set_option linter.unusedVariables false
set_option linter.unusedSimpArgs false

/-- A string's bytes, as numbers; numbers as a string's bytes. -/
def bytesL (s : ByteArray) : List Int := s.data.toList.map fun b => (b.toNat : Int)
def strL (xs : List Int) : ByteArray := ⟨(xs.map fun n => UInt8.ofNat n.toNat).toArray⟩
theorem bytesL_length (s : ByteArray) : (bytesL s).length = s.size := by simp [bytesL]
theorem strCells_eq (s : ByteArray) : Lib.strCells s = (bytesL s).map (Value.int .u8) := by simp [Lib.strCells, bytesL]

theorem rows_u8 {Z : Nat → Prop} {w : World} (xs : List Int) : Rows (cI .u8) Z w xs (xs.map (Value.int .u8)) := by
  intro i x hx
  refine ⟨[.int .u8 x], .cons rfl .nil, fun j u hj => ?_⟩
  cases j with
  | zero =>
    simp at hj; subst hj
    show (xs.map (Value.int .u8))[i * 1 + 0]? = _
    simp [hx]
  | succ j => simp at hj

section
variable {P : Program} {f : FuncId} {n : Nat} {ops : Array Oper} {l : List Oper} {k : List Item} {fr : Fr} {H : List Res} {ρ R : Type} {x : Option ρ} {X : ρ → Option R} {K : R → AV → List Res → Prop} {ty t t' e u : TypeId} {d : Nat} {pos : String} {aft : Array Edge}

/-! ### Pointers that are none -/
def IsPtr (a : AV) : Prop := ∀ Z w v, a.p Z w v → ∃ ad, v = .pointer (some ad)
theorem ptLit {a : Addr} : IsPtr (.lit (.pointer (some a))) := fun _ _ _ e => ⟨a, e⟩
theorem ptF {as : List AV} : IsPtr (.fptr as) := fun _ _ _ ⟨a, e, _⟩ => ⟨a, e⟩
theorem ptE {v : Value} {m : Nat} : IsPtr (.ep v m) := fun _ _ _ ⟨a, _, _, _, e⟩ => ⟨_, e⟩
theorem dNc {y : Operand} {a : AV} (hp : IsPtr a) (hy : arg fr y = some a) : D P n H (.nilCheck y) ty fr a :=
  .of fun o ho hty w Z F ρ _ hf => by
    have h := hf (by simp [Op.operands]) hy
    obtain ⟨ad, e⟩ := hp _ _ _ h
    exact ⟨ρ y, by simp [execOp, ho, e, Sem.run_pure], h⟩

/-- Where an element of an array variable stands. -/
def IA (P : Program) (t : TypeId) (kd : IntKind) (i : Int) (off : Nat) : Prop := ∀ a w, (Instr.indexAt t (.pointer (some a)) (.int kd i)).run P w = .ok (.pointer (some (a.add off))) w
theorem dIAp {y z : Operand} {kd : IntKind} {i : Int} {b o off : Nat} (hf' : IA P t kd i off) (hy : arg fr y = some (.lit (.pointer (some ⟨b, o, none⟩)))) (hz : arg fr z = some (Ai kd i)) : D P n H (.indexAddr t y z) ty fr (.lit (.pointer (some ⟨b, o + off, none⟩))) :=
  .of fun q ho hty w Z F ρ _ hf => by
    have e1 : ρ y = _ := hf (by simp [Op.operands]) hy
    have e2 : ρ z = _ := hf (by simp [Op.operands]) hz
    exact ⟨.pointer (some ⟨b, o + off, none⟩), by simp [execOp, ho, e1, e2, hf' _ w, Sem.run_bind, Addr.add_lit], rfl⟩
theorem dIAf {y z : Operand} {as : List AV} {kd : IntKind} {i : Int} {off : Nat} (hf' : IA P t kd i off) (hy : arg fr y = some (.fptr as)) (hz : arg fr z = some (Ai kd i)) : D P n H (.indexAddr t y z) ty fr (.fptr (as.drop off)) :=
  .of fun o ho hty w Z F ρ _ hf => by
    obtain ⟨a, e1, hb, hat⟩ := hf (by simp [Op.operands]) hy
    have e2 : ρ z = _ := hf (by simp [Op.operands]) hz
    exact ⟨_, by simp [execOp, ho, e1, e2, hf' a w, Sem.run_bind], _, rfl, by rw [add_block]; exact hb, hat.drop off⟩

/-! ### Numbers -/
theorem dMin {y z : Operand} {ts : Array TypeId} {kd : IntKind} {a b : Int} (hy : arg fr y = some (Ai kd a)) (hz : arg fr z = some (Ai kd b)) : D P n H (.call ⟨.builtin .min, #[y, z], ts⟩) ty fr (Ai kd (if b < a then b else a)) :=
  .of fun o ho hty w Z F ρ _ hf => by
    have h1 : ρ y = _ := hf (by simp [Op.operands, Call.operands]) hy
    have h2 : ρ z = _ := hf (by simp [Op.operands, Call.operands]) hz
    exact ⟨.int kd (if b < a then b else a), by simp [execOp, ho, h1, h2, resolve, invoke, builtin, Builtin.min_, Builtin.min2, Sem.run_bind, Sem.run_pure], rfl⟩

theorem dMax {y z : Operand} {ts : Array TypeId} {kd : IntKind} {a b : Int} (hy : arg fr y = some (Ai kd a)) (hz : arg fr z = some (Ai kd b)) : D P n H (.call ⟨.builtin .max, #[y, z], ts⟩) ty fr (Ai kd (if a < b then b else a)) :=
  .of fun o ho hty w Z F ρ _ hf => by
    have h1 : ρ y = _ := hf (by simp [Op.operands, Call.operands]) hy
    have h2 : ρ z = _ := hf (by simp [Op.operands, Call.operands]) hz
    exact ⟨.int kd (if a < b then b else a), by simp [execOp, ho, h1, h2, resolve, invoke, builtin, Builtin.max_, Builtin.max2, Sem.run_bind, Sem.run_pure], rfl⟩

/-! ### Pieces of strings -/
theorem dSlS {s : ByteArray} {y a b : Operand} {ka kb : IntKind} {i m : Int} (ht : P.underlying t = some .string) (hy : arg fr y = some (.lit (.string s))) (ha : arg fr a = some (Ai ka i)) (hb : arg fr b = some (Ai kb m)) (h0 : 0 ≤ i) (h1 : i ≤ m) (h2 : m ≤ s.size) : D P n H (.slice t y (some a) (some b) none) ty fr (.lit (.string (sls s i m))) :=
  .of fun o ho hty w Z F ρ hH hf => by
    have e1 : ρ y = _ := hf (by simp [Op.operands]) hy
    have e2 : ρ a = _ := hf (by simp [Op.operands]) ha
    have e3 : ρ b = _ := hf (by simp [Op.operands]) hb
    have hr : (0 : Int) ≤ m := by omega
    have hmm : max m 0 = m := by omega
    exact ⟨.string (sls s i m), by simp [execOp, ho, e1, e2, e3, Instr.sliceAt, Instr.slice, Instr.sliceBounds, Instr.sliceBound, run_underlying ht, Sem.run_bind, asIntOf, h2, h0, hr, h1, hmm, sls], rfl⟩
theorem dSlSL {s : ByteArray} {y a : Operand} {ka : IntKind} {i : Int} (ht : P.underlying t = some .string) (hy : arg fr y = some (.lit (.string s))) (ha : arg fr a = some (Ai ka i)) (h0 : 0 ≤ i) (h1 : i ≤ s.size) : D P n H (.slice t y (some a) none none) ty fr (.lit (.string (sls s i s.size))) :=
  .of fun o ho hty w Z F ρ hH hf => by
    have e1 : ρ y = _ := hf (by simp [Op.operands]) hy
    have e2 : ρ a = _ := hf (by simp [Op.operands]) ha
    exact ⟨.string (sls s i s.size), by simp [execOp, ho, e1, e2, Instr.sliceAt, Instr.slice, Instr.sliceBounds, Instr.sliceBound, run_underlying ht, Sem.run_bind, asIntOf, h0, h1, sls], rfl⟩
theorem dSlSR {s : ByteArray} {y b : Operand} {kb : IntKind} {m : Int} (ht : P.underlying t = some .string) (hy : arg fr y = some (.lit (.string s))) (hb : arg fr b = some (Ai kb m)) (h1 : 0 ≤ m) (h2 : m ≤ s.size) : D P n H (.slice t y none (some b) none) ty fr (.lit (.string (sls s 0 m))) :=
  .of fun o ho hty w Z F ρ hH hf => by
    have e1 : ρ y = _ := hf (by simp [Op.operands]) hy
    have e3 : ρ b = _ := hf (by simp [Op.operands]) hb
    exact ⟨.string (sls s 0 m), by simp [execOp, ho, e1, e3, Instr.sliceAt, Instr.slice, Instr.sliceBounds, Instr.sliceBound, run_underlying ht, Sem.run_bind, asIntOf, h1, h2, sls], rfl⟩

/-! ### Strings as bytes, bytes as a string -/
theorem sCSB {y : Operand} {s : ByteArray} (ht : P.underlying t = some .string) (ht' : P.underlying t' = some (.slice e)) (he : P.underlying e = some (.int .u8)) (hs : (s.size : Int) ≤ 140737488355328) (hy : arg fr y = some (.lit (.string s))) (hdn : Nat.blt d n = true)
    (h : ∀ v, SimL P f n ops l k ((d, .sv v) :: fr) (.own e (cI .u8) v (bytesL s) :: H) x X K) : SimL P f n ops (⟨some d, .convert t t' y, ty, pos, aft, none⟩ :: l) k fr H x X K := by
  refine sEff (I := Value) (fun o ho hty w0 F0 Z0 w F Z ρ hinv hf => ?_) hdn h
  have e1 : ρ y = _ := hf (by simp [Op.operands]) hy
  have hr := run_bytes_of_string (P := P) w t t' e s ht ht' he
  have hge := grownCap_ge w s.size 0 e
  have hcm := grownCap_le_maxLen w s.size 0 e (by unfold maxLen; omega)
  have hsz : (bytesRow s (grownCap w s.size 0 e)).size = grownCap w s.size 0 e := by
    have : s.data.size = s.size := rfl
    simp only [bytesRow, Array.size_append, Array.size_map, Array.size_replicate, this]; omega
  have hpush := (Inv.push (H := H) (w := w.drew) (w0 := w0) (F0 := F0) (Z0 := Z0) (F := F) (Z := Z) (hinv.quiet (Step.drew w _) (fun _ x => x) (fun _ x => .inl x)) (.cells (bytesRow s (grownCap w s.size 0 e)) e ((bytesRow s (grownCap w s.size 0 e)).size, (bytesRow s (grownCap w s.size 0 e)).size + 1)) (.own e (cI .u8) (.slice (some ⟨w.heap.size, 0, none⟩) s.size (grownCap w s.size 0 e)) (bytesL s)))
  refine ⟨_, _, .slice (some ⟨w.heap.size, 0, none⟩) s.size (grownCap w s.size 0 e), _, Z, by simp only [execOp, ho, e1, hr, Sem.run_bind, Result.andThen_ok, Sem.run_pure], hpush ?_, fun _ x => x, fun b hb => ?_, rfl, _, _, _, rfl⟩
  · refine .inl ⟨(bytesL s).map (Value.int .u8), ⟨by simp [cI], .inr ⟨w.heap.size, grownCap w s.size 0 e, _, by rw [bytesL_length], Nat.zero_le _, ⟨_, heap_alloc_new w.drew _, .inr (Nat.le_refl _)⟩, by rw [bytesL_length]; exact hge, hcm, by rw [hsz]; simp [cI], ?_⟩⟩, fun b hb => ?_, rows_u8 _⟩
    · have e2 : (bytesRow s (grownCap w s.size 0 e)).toList = Lib.strCells s ++ List.replicate (grownCap w s.size 0 e - s.size) (.int .u8 0) := by
        simp [bytesRow, Lib.strCells]
      have e3 : (bytesL s).length * (cI .u8).sz = (Lib.strCells s).length := by rw [bytesL_length, Lib.strCells_length]; simp [cI]
      rw [e2, e3, List.take_left, strCells_eq]
    · simp [Value.ownBlock] at hb; exact hb.symm
  · exact Below.heap_alloc w.drew _ b (hinv.zin b hb).1

theorem byte_round {m : Int} : (Value.int .u8 m).oneCell' = true := rfl
theorem dCBS {y : Operand} {xs : List Int} (ht : P.underlying t = some (.slice e)) (he : P.underlying e = some (.int .u8)) (ht' : P.underlying t' = some .string) (hy : arg fr y = some (.fsl (cI .u8) xs)) : D P n H (.convert t t' y) ty fr (.lit (.string (strL xs))) :=
  .of fun o ho hty w Z F ρ _ hf => by
    obtain ⟨A, m, e1, hm, hel⟩ := hf (by simp [Op.operands]) hy
    cases A with
    | none =>
      have : xs = [] := by
        cases xs with
        | nil => rfl
        | cons a xs => obtain ⟨_, h, _⟩ := hel 0 a rfl; cases h
      subst this
      refine ⟨.string (strL []), ?_, rfl⟩
      have := run_convert_bytes_nil (P := P) w t e ht he 0 m t' ht'
      simp only [execOp, ho, e1, List.length_nil, this, Sem.run_bind, Result.andThen_ok, Sem.run_pure]
      rfl
    | some a =>
      obtain ⟨b, off, sp⟩ := a
      have hl : (loadCells ⟨b, off, sp⟩ xs.length).run P w = .ok (xs.map (Value.int .u8)).toArray w := by
        have := run_loadCells_list (P := P) w ⟨b, off, sp⟩ (xs.map (Value.int .u8)) (fun j v hj => by
          rw [List.getElem?_map] at hj
          cases hx : xs[j]? with
          | none => rw [hx] at hj; cases hj
          | some q =>
            rw [hx] at hj
            simp at hj; subst hj
            obtain ⟨a', ha', _, vs, h1, h2⟩ := hel j q hx
            cases ha'
            cases h1 with
            | cons h1 h3 =>
              cases h3
              have := h2 0 _ rfl
              simp only [cI, Nat.mul_one] at this
              rw [show (⟨b, off, sp⟩ : Addr).add j = ((⟨b, off, sp⟩ : Addr).add j).add 0 by simp [Addr.add], this]
              exact congrArg some h1)
        simpa using this
      refine ⟨.string (strL xs), ?_, rfl⟩
      have hr := run_convert_bytes_string (P := P) w t t' e (some ⟨b, off, sp⟩) xs.length m ht he ht'
      have hb := run_bytesToString (P := P) w ⟨b, off, sp⟩ xs.length m xs hl
      have hs : xs.foldl (fun r n => r.push (UInt8.ofNat n.toNat)) ByteArray.empty = strL xs := by
        rw [foldl_push_bytes]
        simp [strL, ByteArray.empty, ByteArray.emptyWithCapacity]
        rfl
      simp only [execOp, ho, e1, hr, hb, hs, Sem.run_bind, Result.andThen_ok, Sem.run_pure]

theorem run_append_str (w : World) (t u ty e : TypeId) (i : TypeInfo) (ht : P.underlying t = some (.slice e)) (hu : P.underlying u = some .string) (hi : P.info? e = some i) (hz : i.zero = some (.int .u8 0))
    (hsize : i.size = 1) (hby : i.bytes = 1) (v : Value) (n : Nat) (xs : List Value) (hown : rowOwn w e 1 v n xs) (s : ByteArray) (h63 : n + s.size ≤ maxLen) (hbytes : n + s.size ≤ 140737488355328) :
    ∃ v' w', (Builtin.append_ #[t, u] ty #[v, .string s]).run P w = .ok v' w' ∧ rowOwn w' e 1 v' (n + s.size) (xs ++ Lib.strCells s) ∧ w.grownBy w' v.ownBlock ∧ (v'.ownBlock = v.ownBlock ∨ v'.ownBlock = some w.heap.size) := by
  have hxl : xs.length = n := by simpa using hown.1
  have hsmall : n + s.size ≤ 9223372036854775807 := by simp only [maxLen] at h63; omega
  have hlen : (xs ++ Lib.strCells s).length = (n + s.size) * 1 := by rw [List.length_append, hxl, Lib.strCells_length, Nat.mul_one]
  have grown : ∀ old, rowOwn (w.drew.alloc (.cells (xs.toArray ++ (Lib.strCells s).toArray ++ Builtin.zeroCells (Value.int .u8 0).cells (grownCap w (n + s.size) old e - (n + s.size))) e)) e 1 (.slice (some ⟨w.heap.size, 0, none⟩) (n + s.size) (grownCap w (n + s.size) old e)) (n + s.size) (xs ++ Lib.strCells s) := by
    intro old
    have hge := grownCap_ge w (n + s.size) old e
    have hcm2 : grownCap w (n + s.size) old e ≤ maxLen := grownCap_le_maxLen w (n + s.size) old e h63
    have hz1 : (Value.int IntKind.u8 0).cells.size = 1 := rfl
    refine ⟨hlen, .inr ⟨w.heap.size, _, _, rfl, Nat.zero_le _, .new (heap_alloc_new w.drew _), hge, hcm2, ?_, ?_⟩⟩
    · simp only [Array.size_append, List.size_toArray, size_zeroCells, hz1, hxl, Lib.strCells_length]
      omega
    · simp only [Array.toList_append, List.append_assoc]
      rw [← List.append_assoc, ← hlen]
      exact List.take_left
  have gby : ∀ o row, w.grownBy (w.drew.alloc o) row := fun o row => ⟨rfl, rfl, rfl, by simp, fun k hk _ => Below.heap_alloc w.drew _ k hk⟩
  rcases hown.2 with ⟨rfl, rfl⟩ | ⟨g, cap, cur, rfl, hbg, ⟨fz, hg, hfz⟩, hnc, hcm, hcs, htake⟩
  · have hx : xs = [] := List.eq_nil_of_length_eq_zero hxl
    subst hx
    by_cases h0 : s.size = 0
    · refine ⟨.slice none 0 0, w, ?_, ?_, ⟨rfl, rfl, rfl, Nat.le_refl _, fun _ _ _ => rfl⟩, .inl rfl⟩
      · have hf := Lib.run_firstCells_string (P := P) w 1 s
        rw [h0] at hf
        simp [Builtin.append_, run_underlying ht, run_underlying hu, sizeOf, typeInfo, hi, hsize, Builtin.lenOf, h0, hf]
      · have : Lib.strCells s = [] := List.eq_nil_of_length_eq_zero (by rw [Lib.strCells_length, h0])
        rw [this, h0]
        exact ⟨by simp, .inl ⟨rfl, rfl⟩⟩
    · have hr := run_append_nil_string (P := P) w t u ty e i (.int .u8 0) ht hu hi hz s (by omega) (by omega) (by rw [hby]; omega)
      have hg := grown 0
      have he : s.data.map (fun b => Value.int .u8 b.toNat) = (([] : List Value).toArray ++ (Lib.strCells s).toArray) := by
        apply Array.ext'
        simp [Lib.strCells]
      rw [he] at hr
      simp only [Nat.zero_add] at hg
      exact ⟨_, _, hr, by simpa only [Nat.zero_add] using hg, gby _ _, .inr rfl⟩
  · by_cases hroom : n + s.size ≤ cap
    · have hfit : n + s.size ≤ cur.size := by rw [hcs]; omega
      have hf := Lib.run_firstCells_string (P := P) w 1 s
      have hst := run_storeCells_fz (P := P) g n e fz (Lib.strCells s) 0 cur w hg hfz (by simpa [Lib.strCells_length] using hfit) (Lib.strCells_oneCell s)
      simp only [Nat.add_zero, Lib.strCells_length] at hst
      have hr : (Builtin.append_ #[t, u] ty #[.slice (some ⟨g, 0, none⟩) n cap, .string s]).run P w =
          .ok (.slice (some ⟨g, 0, none⟩) (n + s.size) cap) (w.setRow g (cur.toList.take n ++ Lib.strCells s ++ cur.toList.drop (n + s.size)).toArray) := by
        simp [Builtin.append_, run_underlying ht, run_underlying hu, sizeOf, typeInfo, hi, hsize, Builtin.lenOf, hroom, hf, Addr.add_lit, hst]
      have hsame : (cur.toList.take n ++ Lib.strCells s ++ cur.toList.drop (n + s.size)).toArray.size = cur.size := by
        simp only [List.size_toArray, List.length_append, List.length_take, List.length_drop, Array.length_toList, Lib.strCells_length]; omega
      refine ⟨_, _, hr, ⟨hlen, .inr ⟨g, cap, _, rfl, hbg, ⟨fz, setRow_heap w g cur _ e _ hg, by rw [hsame]; exact hfz⟩, hroom, hcm, by rw [hsame]; exact hcs, ?_⟩⟩, ⟨rfl, rfl, rfl, by simp, fun k _ hk => setRow_other w g k _ (fun e => hk (by simp [Value.ownBlock, e]))⟩, Or.inl rfl⟩
      have ht' : cur.toList.take n = xs := by simpa using htake
      rw [ht', ← hlen]
      exact List.take_left
    · have holds : ∀ j u, xs[j]? = some u → w.cell? ((⟨g, 0, none⟩ : Addr).add j) = some u := by
        intro j u hu
        rw [Addr.add_lit, cell_of_row w g _ cur e fz hg]
        rw [← htake, List.getElem?_take] at hu
        split at hu
        · simpa using hu
        · cases hu
      have hr := Lib.run_append_grow_string (P := P) w t u ty e i (.int .u8 0) ht hu hi hz ⟨g, 0, none⟩ n cap xs (by rw [hsize]; simpa using hxl) holds s (by omega) (by omega) (by rw [hby]; exact growslice_fits (by omega) (by omega))
      exact ⟨_, _, hr, grown _, gby _ _, Or.inr rfl⟩

theorem append_own_str {w0 w : World} {F0 Z0 F Z : Nat → Prop} {v : Value} {xs : List Int} {s : ByteArray} {j : Nat} (hi : Inv w0 w F0 Z0 F Z H) (ht : P.underlying t = some (.slice e)) (hu : P.underlying u = some .string) (hinfo : Info P e (.int .u8 0) 1 1) (hj : H[j]? = some (.own e (cI .u8) v xs)) (hb : xs.length + s.size ≤ 140737488355328) :
    ∃ v' w' F', (Builtin.append_ #[t, u] ty #[v, .string s]).run P w = .ok v' w' ∧ Inv w0 w' F0 Z0 F' Z (H.set j (.own e (cI .u8) v' (xs ++ bytesL s))) ∧ Keep Z w w' ∧ ∃ A n m, v' = .slice A n m := by
  obtain ⟨i, i1, i2, i3, i4⟩ := hinfo.parts
  obtain ⟨F1, hown, hF1⟩ := hi.res.at hj
  -- as if it were nil, if it has no room at all
  have hv0 : (∃ B, v = .slice B 0 0 ∧ s.size = 0 ∧ xs = []) ∨ ∃ v0 cs, rowOwn w e 1 v0 xs.length cs ∧ Rows (cI .u8) Z w xs cs ∧ (∀ G1, (Res.own e (cI .u8) v xs).h Z w G1 → ∀ b, v0.ownBlock = some b → G1 b) ∧ (Builtin.append_ #[t, u] ty #[v, .string s]).run P w = (Builtin.append_ #[t, u] ty #[v0, .string s]).run P w := by
    have empty : ∀ B, v = .slice B 0 0 → xs = [] → (∃ B, v = .slice B 0 0 ∧ s.size = 0 ∧ xs = []) ∨ ∃ v0 cs, rowOwn w e 1 v0 xs.length cs ∧ Rows (cI .u8) Z w xs cs ∧ (∀ G1, (Res.own e (cI .u8) v xs).h Z w G1 → ∀ b, v0.ownBlock = some b → G1 b) ∧ (Builtin.append_ #[t, u] ty #[v, .string s]).run P w = (Builtin.append_ #[t, u] ty #[v0, .string s]).run P w := by
      rintro B rfl rfl
      by_cases h0 : s.size = 0
      · exact .inl ⟨B, rfl, h0, rfl⟩
      refine .inr ⟨.slice none 0 0, [], ⟨by simp, .inl ⟨rfl, rfl⟩⟩, by intro i x hx; simp at hx, fun G1 _ b hb => by simp [Value.ownBlock] at hb, ?_⟩
      cases B with
      | none => rfl
      | some B =>
        have hb' : s.size ≤ 140737488355328 := by simpa using hb
        rw [Lib.run_append_grow_string (P := P) w t u ty e i (.int .u8 0) ht hu i1 i2 B 0 0 [] (by simp) (by simp) s (by omega) (by omega) (by rw [i4]; exact growslice_fits (by omega) (by omega))]
        rw [run_append_nil_string (P := P) w t u ty e i (.int .u8 0) ht hu i1 i2 s (by omega) (by omega) (by rw [i4]; omega)]
        have he : s.data.map (fun b => Value.int .u8 b.toNat) = (([] : List Value).toArray ++ (Lib.strCells s).toArray) := by
          apply Array.ext'
          simp [Lib.strCells]
        rw [he]; simp
    obtain ⟨cs, hr, hbk, hrows⟩ | ⟨hx, B, hB⟩ := hown
    · by_cases h0 : ∃ B, v = .slice B 0 0
      · obtain ⟨B, hB⟩ := h0
        refine empty B hB ?_
        rcases hr.2 with ⟨hv, hn⟩ | ⟨g, cap, cur, hv, _⟩
        · exact List.eq_nil_of_length_eq_zero hn
        · rw [hB] at hv; simp at hv
          exact List.eq_nil_of_length_eq_zero hv.2.1.symm
      · refine .inr ⟨v, cs, hr, hrows, fun G1 hg b hb => ?_, rfl⟩
        obtain ⟨_, _, hbk', _⟩ | ⟨_, B, hB⟩ := hg
        · exact hbk' b hb
        · exact (h0 ⟨B, hB⟩).elim
    · exact empty B hB hx
  rcases hv0 with ⟨B, rfl, h0, rfl⟩ | ⟨v0, cs, hr, hrows, hbk, hrun⟩
  · have hbl : bytesL s = [] := List.eq_nil_of_length_eq_zero (by rw [bytesL_length, h0])
    obtain ⟨F', hi', hk⟩ := hi.turn (w' := w) (r' := .own e (cI .u8) (.slice B 0 0) ([] ++ bytesL s)) hj fun G1 h1 _ => ⟨G1, Step.refl _ _, by rw [hbl]; exact h1, fun _ x => .inl x⟩
    refine ⟨_, w, F', ?_, hi', hk, _, _, _, rfl⟩
    have hf := Lib.run_firstCells_string (P := P) w 1 s
    have hsc : Lib.strCells s = [] := List.eq_nil_of_length_eq_zero (by rw [Lib.strCells_length, h0])
    rw [h0, hsc] at hf
    cases B <;> simp [Builtin.append_, run_underlying ht, run_underlying hu, sizeOf, typeInfo, i1, i3, Builtin.lenOf, h0, hf, storeCells]
  · obtain ⟨v', w', r1, r2, r3, r5⟩ := run_append_str (P := P) (ty := ty) w t u e i ht hu i1 i2 i3 i4 v0 xs.length cs hr s (by rw [mx]; omega) hb
    rw [← hrun] at r1
    obtain ⟨F', hi', hk⟩ := hi.turn (w' := w') (r' := .own e (cI .u8) v' (xs ++ bytesL s)) hj fun G1 hown' hz1 => by
      have hbk' := hbk G1 hown'
      have st := Step.of_grown r3 (run_drawn _ r1) G1 hbk'
      have hkz : Keep Z w w' := fun b hz => st.keep b (hz1 b hz).1 (hz1 b hz).2
      refine ⟨fun b => G1 b ∨ (w.heap.size ≤ b ∧ b < w'.heap.size), st, .inl ⟨cs ++ Lib.strCells s, by rw [List.length_append, bytesL_length]; exact r2, fun b hb => ?_, ?_⟩, fun _ x => x⟩
      · rcases r5 with e5 | e5
        · exact .inl (hbk' b (e5 ▸ hb))
        · rw [e5] at hb; cases hb
          refine .inr ⟨Nat.le_refl _, ?_⟩
          rcases r2.2 with ⟨hv, _⟩ | ⟨g, cap, cur, hv, _, ⟨fz, hh, _⟩, _⟩
          · rw [hv] at e5; cases e5
          · rw [hv] at e5; simp [Value.ownBlock] at e5; subst e5
            exact (Array.getElem?_eq_some_iff.1 hh).1
      · have : Rows (cI .u8) Z w (bytesL s) (Lib.strCells s) := by rw [strCells_eq]; exact rows_u8 _
        exact (rows_append hrows this (by simpa [cI] using hr.1)).st (fun _ x => x) hkz
    refine ⟨v', w', F', r1, hi', hk, ?_⟩
    rcases r2.2 with ⟨hv, _⟩ | ⟨g, cap, cur, hv, _⟩
    · exact ⟨_, _, _, hv⟩
    · exact ⟨_, _, _, hv⟩

theorem sApS {y z : Operand} {v : Value} {xs : List Int} {s : ByteArray} {j : Nat} (ht : P.underlying t = some (.slice e)) (hu : P.underlying u = some .string) (hinfo : Info P e (.int .u8 0) 1 1) (hy : arg fr y = some (.sv v)) (hj : H[j]? = some (.own e (cI .u8) v xs)) (hz : arg fr z = some (.lit (.string s))) (hb : (xs.length : Int) + (s.size : Int) ≤ 140737488355328) (hdn : Nat.blt d n = true)
    (h : ∀ v', SimL P f n ops l k ((d, .sv v') :: fr) (H.set j (.own e (cI .u8) v' (xs ++ bytesL s))) x X K) : SimL P f n ops (⟨some d, .call ⟨.builtin .append, #[y, z], #[t, u]⟩, ty, pos, aft, none⟩ :: l) k fr H x X K := by
  refine sEff (I := Value) (fun o ho hty w0 F0 Z0 w F Z ρ hinv hf => ?_) hdn h
  obtain ⟨e1, _⟩ := hf (by simp [Op.operands, Call.operands]) hy
  have e2 : ρ z = _ := hf (by simp [Op.operands, Call.operands]) hz
  obtain ⟨v', w', F', hr, hi', hk, hsl⟩ := append_own_str (ty := ty) (s := s) hinv ht hu hinfo hj (by omega)
  exact ⟨v', w', v', F', Z, by simp [execOp, ho, hty, e1, e2, hr, resolve, invoke, builtin, Sem.run_bind], hi', fun _ x => x, hk, rfl, hsl⟩

/-- '[]byte' of bytes that are there: the block bears the mark. -/
theorem sMark {y : Operand} {v : Value} {xs : List Int} {j : Nat} (ht : P.underlying t = some (.slice e)) (he : P.underlying e = some (.int .u8)) (hy : arg fr y = some (.sv v)) (hj : H[j]? = some (.own e (cI .u8) v xs)) (hn : 0 < xs.length) (hdn : Nat.blt d n = true)
    (h : SimL P f n ops l k ((d, .sv v) :: fr) (H.set j (.own e (cI .u8) v xs)) x X K) : SimL P f n ops (⟨some d, .convert t t y, ty, pos, aft, none⟩ :: l) k fr H x X K := by
  refine sEff (I := Unit) (av := fun _ => .sv v) (H' := fun _ => H.set j (.own e (cI .u8) v xs)) (fun o ho hty w0 F0 Z0 w F Z ρ hinv hf => ?_) hdn fun _ => h
  obtain ⟨e1, hsl⟩ := hf (by simp [Op.operands]) hy
  obtain ⟨F1, hown, _⟩ := hinv.res.at hj
  obtain ⟨g, cap, cur, hv, ⟨fz, hh, hfz⟩, hcap, hmx, hsz, hF, hrows⟩ := own_cells hown hn
  have hr : (convert t t v).run P w = .ok v (w.freeze ⟨g, cur.size, none⟩ 1) := by
    rw [hv]
    have hs : w.shape? g = some (e, cur.size) := by unfold World.shape?; rw [hh]
    simp [convert, run_underlying ht, run_underlying he, markStringish, Sem.run_bind, hs]
  have hfr : (w.freeze ⟨g, cur.size, none⟩ 1).heap[g]? = some (.cells cur e (if fz.1 == fz.2 then (cur.size, cur.size + 1) else (min fz.1 cur.size, max fz.2 (cur.size + 1)))) := by
    simp only [World.freeze, Nat.succ_ne_zero, if_false, Array.getElem?_modify, if_true, hh]
    rfl
  have hfz' : FzOk (if fz.1 == fz.2 then (cur.size, cur.size + 1) else (min fz.1 cur.size, max fz.2 (cur.size + 1))) cur.size := by
    split
    · exact .inr (Nat.le_refl _)
    · rename_i hne
      rcases hfz with rfl | hfz
      · exact absurd rfl hne
      · exact .inr (by simp only; omega)
  have step : ∀ F1 : Nat → Prop, F1 g → Step w (w.freeze ⟨g, cur.size, none⟩ 1) F1 := fun F1 h1 => by
    refine ⟨rfl, rfl, rfl, (by rw [S.freeze_drawn]; exact Nat.le_refl _), by simp [World.freeze], fun b _ hb => ?_⟩
    have : g ≠ b := fun e => hb (e ▸ h1)
    simp [World.freeze, Array.getElem?_modify, this]
  obtain ⟨F', hi', hk⟩ := hinv.turn (w' := w.freeze ⟨g, cur.size, none⟩ 1) (r' := .own e (cI .u8) v xs) hj fun G1 hown' hz1 => by
    obtain ⟨cs, ⟨hl, hor⟩, hb, hrows⟩ | ⟨rfl, A, rfl⟩ := hown'
    case inr => simp at hn
    rcases hor with ⟨hv', hn'⟩ | ⟨g', cap', cur', hv', hg', ⟨fz2, hh2, hfz2⟩, hcap', hm', hcs', htk⟩
    · omega
    · have e5 := hv'.symm.trans hv
      simp at e5
      obtain ⟨rfl, rfl⟩ := e5
      rw [hh] at hh2; cases hh2
      have hG : G1 g' := hb g' (by rw [hv']; rfl)
      have st := step G1 hG
      exact ⟨G1, st, .inl ⟨cs, ⟨hl, .inr ⟨g', cap', cur, hv', hg', ⟨_, hfr, hfz'⟩, hcap', hm', hcs', htk⟩⟩, hb, hrows.st (fun _ x => x) fun b hz => st.keep b (hz1 b hz).1 (hz1 b hz).2⟩, fun _ x => .inl x⟩
  exact ⟨v, _, (), F', Z, by simp only [execOp, ho, e1, hr, Sem.run_bind, Result.andThen_ok, Sem.run_pure], hi', fun _ x => x, hk, rfl, hsl⟩

/-! ### Interfaces -/
/-- A value of an interface type whose dynamic type is t. -/
def AV.ifc (t : TypeId) (a : AV) : AV := ⟨fun Z w v => ∃ u, v = .iface t u ∧ a.p Z w u, fun hz hk ⟨u, e, h⟩ => ⟨u, e, a.st hz hk h⟩⟩
theorem oIfc {t : TypeId} {a : AV} : (AV.ifc t a).One := fun _ _ _ ⟨_, e, _⟩ => by rw [e]; rfl
def cIf {T : Type} (t : TypeId) (g : T → AV) : Co T := ⟨fun x => [.ifc t (g x)], 1, by decide, fun _ => rfl, fun _ => ⟨oIfc, trivial⟩⟩

def NoIface (P : Program) (t : TypeId) : Prop := ∃ u, P.underlying t = some u ∧ ∀ ms, u ≠ .interface ms
theorem dMkI {y : Operand} {a : AV} (ht : NoIface P t) (hy : arg fr y = some a) : D P n H (.makeInterface t y) ty fr (.ifc t a) :=
  .of fun o ho hty w Z F ρ _ hf => by
    obtain ⟨u, h1, h2⟩ := ht
    have hr : (Instr.makeInterface t (ρ y)).run P w = .ok (.iface t (ρ y)) w := by
      simp only [Instr.makeInterface, Sem.run_bind, run_underlying h1, Result.andThen_ok]
      cases u <;> first | rfl | exact absurd rfl (h2 _)
    exact ⟨.iface t (ρ y), by simp [execOp, ho, hr, Sem.run_bind], _, rfl, hf (by simp [Op.operands]) hy⟩
theorem dTA {y : Operand} {a : AV} {xt : TypeId} (ht : NoIface P t) (hy : arg fr y = some (.ifc t a)) : D P n H (.typeAssert y xt t false) ty fr a :=
  .of fun o ho hty w Z F ρ _ hf => by
    obtain ⟨u, h1, h2⟩ := ht
    obtain ⟨q, e, hq⟩ := hf (by simp [Op.operands]) hy
    have hr : (Instr.typeAssert (.iface t q) xt t false).run P w = .ok q w := by
      simp only [Instr.typeAssert, Sem.run_bind, run_underlying h1, Result.andThen_ok]
      cases u <;> first | simp [Sem.run_pure] | exact absurd rfl (h2 _)
    exact ⟨q, by simp [execOp, ho, e, hr, Sem.run_bind], hq⟩

/-! ### Slices cut, once more -/
theorem sCut {T : Type} {c : Co T} {y b : Operand} {kb : IntKind} {m : Int} {v : Value} {xs : List T} {j : Nat} (ht : P.underlying t = some (.slice e)) (hsz : SizeIs P e c.sz) (hy : arg fr y = some (.sv v)) (hj : H[j]? = some (.own e c v xs)) (hb : arg fr b = some (Ai kb m)) (h1 : 0 ≤ m) (h2 : m ≤ xs.length) (hdn : Nat.blt d n = true)
    (h : ∀ v', SimL P f n ops l k ((d, .sv v') :: fr) (H.set j (.own e c v' (xs.take m.toNat))) x X K) : SimL P f n ops (⟨some d, .slice t y none (some b) none, ty, pos, aft, none⟩ :: l) k fr H x X K := by
  refine sEff (I := Value) (fun o ho hty w0 F0 Z0 w F Z ρ hinv hf => ?_) hdn h
  obtain ⟨e1, _⟩ := hf (by simp [Op.operands]) hy
  have e3 : ρ b = _ := hf (by simp [Op.operands]) hb
  obtain ⟨F1, hown, _⟩ := hinv.res.at hj
  obtain ⟨A, q, hv⟩ := own_sv hown
  have hq : xs.length ≤ q := by
    obtain ⟨A', m', e', hm', _⟩ := own_fsl hown
    rw [hv] at e'; cases e'; exact hm'
  have hr : (Instr.sliceAt t v none (some (.int kb m)) none).run P w = .ok (.slice A m.toNat q) w := by
    have g1 : m ≤ (q : Int) := by omega
    rw [hv]
    simp [Instr.sliceAt, Instr.slice, Instr.sliceBounds, Instr.sliceBound, run_underlying ht, hsz _, Sem.run_bind, asIntOf, g1, h1]
    intro _
    cases A <;> simp [Addr.add]
  have hl : (xs.take m.toNat).length = m.toNat := by rw [List.length_take]; omega
  obtain ⟨F', hi', hk⟩ := hinv.turn (w' := w) (r' := .own e c (.slice A m.toNat q) (xs.take m.toNat)) hj fun G1 hown' _ => by
    refine ⟨G1, Step.refl _ _, ?_, fun _ x => .inl x⟩
    obtain ⟨cs, ⟨hl1, hr⟩, hbk, hrows⟩ | ⟨rfl, B, hB⟩ := hown'
    · rcases hr with ⟨hv', hn⟩ | ⟨g, cap, cur, hv', hg, hrow, hcap, hmx, hcs, htk⟩
      · have hx : xs = [] := List.eq_nil_of_length_eq_zero hn
        subst hx
        have := hv'.symm.trans hv
        simp at this
        obtain ⟨rfl, rfl⟩ := this
        exact .inr ⟨by simp, none, by simp at h2; congr 1; omega⟩
      · have := hv'.symm.trans hv
        simp at this
        obtain ⟨rfl, rfl⟩ := this
        refine .inl ⟨cs.take (m.toNat * c.sz), ⟨?_, .inr ⟨g, _, cur, by rw [hl], hg, hrow, by rw [hl]; omega, hmx, hcs, ?_⟩⟩, fun b hb => hbk b (by rw [hv']; simpa [Value.ownBlock] using hb), ?_⟩
        · rw [hl, List.length_take, hl1]
          have : m.toNat * c.sz ≤ xs.length * c.sz := Nat.mul_le_mul_right _ (by omega)
          omega
        · rw [hl, ← htk, List.take_take]
          have : m.toNat * c.sz ≤ xs.length * c.sz := Nat.mul_le_mul_right _ (by omega)
          rw [Nat.min_eq_left this]
        · intro i z hz
          rw [List.getElem?_take] at hz
          split at hz
          · rename_i hlt
            obtain ⟨vs, g1, g2⟩ := hrows i z hz
            refine ⟨vs, g1, fun q2 z2 hz2 => ?_⟩
            have hq2 : q2 < c.sz := by
              have : vs.length = c.sz := by rw [← g1.length, c.len]
              rcases Nat.lt_or_ge q2 vs.length with h | h
              · omega
              · simp [h] at hz2
            have : i * c.sz + c.sz ≤ m.toNat * c.sz := by rw [← Nat.succ_mul]; exact Nat.mul_le_mul_right _ hlt
            rw [List.getElem?_take, if_pos (by omega)]
            exact g2 q2 z2 hz2
          · cases hz
    · have := hB.symm.trans hv
      simp at this
      obtain ⟨rfl, rfl⟩ := this
      exact .inr ⟨by simp, B, by simp at h2; congr 1; omega⟩
  exact ⟨_, w, .slice A m.toNat q, F', Z, by simp only [execOp, ho, e1, e3, Option.map_none, Option.map_some, hr, Sem.run_bind, Result.andThen_ok, Sem.run_pure], hi', fun _ x => x, hk, rfl, _, _, _, rfl⟩

theorem dSl3 {T : Type} {c : Co T} {xs : List T} {y b q : Operand} {kb kq : IntKind} {m m2 : Int} (ht : P.underlying t = some (.slice e)) (hsz : SizeIs P e c.sz) (hy : arg fr y = some (.fsl c xs)) (hb : arg fr b = some (Ai kb m)) (hq : arg fr q = some (Ai kq m2)) (h1 : 0 ≤ m) (h2 : m ≤ m2) (h3 : m2 ≤ xs.length) : D P n H (.slice t y none (some b) (some q)) ty fr (.fsl c (sl xs 0 m)) :=
  .of fun o ho hty w Z F ρ hH hf => by
    have hp := hf (by simp [Op.operands]) hy
    have e2 : ρ b = _ := hf (by simp [Op.operands]) hb
    have e3 : ρ q = _ := hf (by simp [Op.operands]) hq
    obtain ⟨A, c', e1, hc', hel⟩ := hp
    have g1 : m2 ≤ (c' : Int) := by omega
    have g2 : (0 : Int) ≤ m2 := by omega
    have g3 : m ≤ ((m2.toNat : Nat) : Int) := by omega
    refine ⟨.slice A m.toNat m2.toNat, ?_, A, m2.toNat, ?_, by simp [sl]; omega, fun i x hx => ?_⟩
    · have g4 : max m2 0 = m2 := by omega
      simp [execOp, ho, e1, e2, e3, Instr.sliceAt, Instr.slice, Instr.sliceBounds, Instr.sliceBound, run_underlying ht, hsz _, Sem.run_bind, asIntOf, g1, g2, g3, g4, h1, h2]
      try (intro _; cases A <;> simp [Addr.add])
    · have : (sl xs 0 m).length = m.toNat := by simp [sl]; omega
      rw [this]
    · simp only [sl, Int.toNat_zero, List.drop_zero, List.getElem?_take] at hx
      split at hx
      · exact hel i x hx
      · cases hx

/-! ### Calls that write what their caller owns -/
def restR (H : List Res) : List Nat → List Res
  | [] => H
  | j :: js => restR (H.eraseIdx j) js
theorem HAll.part {Z : Nat → Prop} {w : World} : ∀ (js : List Nat) {H : List Res} {F : Nat → Prop}, HAll H Z w F → ∃ F1 F2 : Nat → Prop, HAll (S.pickR H js) Z w F1 ∧ HAll (restR H js) Z w F2 ∧ (∀ b, F1 b → F b ∧ ¬ F2 b) ∧ (∀ b, F2 b → F b) := by
  intro js
  induction js with
  | nil => intro H F h; exact ⟨fun _ => False, F, trivial, h, fun _ x => x.elim, fun _ x => x⟩
  | cons j js ih =>
    intro H F h
    unfold S.pickR restR
    cases hj : H[j]? with
    | none =>
      obtain ⟨F1, F2, _, h2, _, d2⟩ := ih (h.erase j)
      exact ⟨fun _ => False, F2, trivial, h2, fun _ x => x.elim, d2⟩
    | some r =>
      obtain ⟨G1, G2, g1, g2, e1, e2⟩ := h.take hj
      obtain ⟨F1, F2, h1, h2, d1, d2⟩ := ih g2
      refine ⟨fun b => G1 b ∨ F1 b, F2, ⟨G1, F1, g1, h1, fun b hb => ⟨.inl hb, fun x => (e1 b hb).2 (d1 b x).1⟩, fun b hb => .inr hb⟩, h2, fun b hb => ?_, fun b hb => e2 b (d2 b hb)⟩
      rcases hb with hb | hb
      · exact ⟨(e1 b hb).1, fun x => (e1 b hb).2 (d2 b x)⟩
      · exact ⟨e2 b (d1 b hb).1, (d1 b hb).2⟩

/-- A call's contract, with what it is handed to write and what it hands back (I: what its term does not tell). -/
def Hands (P : Program) (g : FuncId) (avs : List AV) (Hin : List Res) {Q I : Type} (y : Option Q) (A : Q → I → AV) (B : Q → I → List Res) : Prop := ∀ r, y = some r → Spec P g avs Hin fun a H => ∃ ι, a = A r ι ∧ H = B r ι

theorem call_run' {o : Oper} {g : FuncId} {y : Operand} {args : Array Operand} {ts : Array TypeId} {w : World} {ρ : Operand → Value} (hy : ρ y = .func (.func g) #[] #[]) (ho : o.op = .call ⟨.value y, args, ts⟩) (hg : Ent P g) : (execOp ρ o).run P w = .ok (.enter g (args.toList.map ρ).toArray) w := by
  have := hg (args.map ρ) w
  simp only [execOp, ho, resolve, hy, Deferred.ofValue, invoke, Sem.run_bind, Sem.run_pure, Result.andThen_ok, Array.append_empty, this, Array.empty_append]
  congr 2
  apply Array.ext'
  simp

/-- A guard that is met, or none. -/
def GMet (ops : Array Oper) (n : Nat) (fr : Fr) (gd : Option (Nat × Bool)) : Prop := ∀ (Z : Nat → Prop) (w : World) (tmps : Array Value), tmps.size = n → FrOk fr Z w tmps → ∀ o : Oper, o.guard = gd → Region.wanted o (yielded ops tmps) = true
theorem gmN : GMet ops n fr none := fun _ _ _ _ _ _ h => wanted_none h
theorem gmS {j dj : Nat} {oj : Oper} {t b : Bool} (hj : ops[j]? = some oj) (hdj : oj.dst = some dj) (hl : look fr dj = some (Ab t)) (ht : t = b) (hjn : Nat.blt dj n = true) : GMet ops n fr (some (j, b)) := fun Z w tmps hn hf o ho => by
  have hjn' : dj < n := by simpa [Nat.blt_eq] using hjn
  have hy := yield_of hj hdj (by omega) (hf dj _ hl)
  simp [Region.wanted, ho, hy, ht]
theorem sCallHg {gd : Option (Nat × Bool)} (hgd : GMet ops n fr gd) {g : FuncId} {y : Operand} {args : Array Operand} {ts : Array TypeId} {avs : List AV} {Hin : List Res} {Q I : Type} {z : Option Q} {A : Q → I → AV} {B : Q → I → List Res} {r : Q} (js : List Nat) (hg : Ent P g) (hy : arg fr y = some (.lit (.func (.func g) #[] #[]))) (hp : Hands P g avs Hin z A B) (hz : z = some r) (hpk : S.pickR H js = Hin) (ha : ArgsS fr args.toList avs) (hdn : Nat.blt d n = true)
    (h : ∀ ι, SimL P f n ops l k ((d, A r ι) :: fr) (B r ι ++ restR H js) x X K) : SimL P f n ops (⟨some d, .call ⟨.value y, args, ts⟩, ty, pos, aft, gd⟩ :: l) k fr H x X K := by
  intro is hs r' hr w0 F0 Z0 w F Z tmps hn hi hf
  cases is with
  | nil => simp at hs
  | cons i is =>
    simp only [List.map_cons, List.cons.injEq] at hs
    have hdn' : d < n := by simpa [Nat.blt_eq] using hdn
    have all : ∀ {x : Operand} {a : AV}, arg fr x = some a → a.p Z w ((⟨tmps, []⟩ : Act).eval x) := by
      intro x a hx
      cases x with
      | tmp t => exact hf t a hx
      | const v => simp [arg] at hx; subst hx; rfl
      | func g => simp [arg] at hx; subst hx; rfl
      | global g => simp [arg] at hx; subst hx; rfl
    have hargs := argsS_ok (ρ := (⟨tmps, []⟩ : Act).eval) ha fun {x a} _ hx => all hx
    obtain ⟨F1, F2, h1, h2, d1, d2⟩ := hi.res.part js
    have hin : Inv w w F1 Z F1 Z Hin := ⟨Base.refl _ _, fun _ x => x, fun b hb => ⟨(hi.zin b hb).1, .inl hb⟩, fun b hb => ⟨(hi.fin b (d1 b hb).1).1, .inl hb, (hi.fin b (d1 b hb).1).2.2⟩, hpk ▸ h1⟩
    refine .enter hs.1 (hgd Z w tmps hn hf _ rfl) (call_run' (all hy) rfl hg) (hp r hz w F1 Z _ hargs hin) ?_
    rintro e w'' ⟨v, rfl, F', Z', av, H', ⟨ι, rfl, rfl⟩, hinv, hv⟩
    refine ⟨v, rfl, ?_⟩
    have s : Step w w'' F1 := ⟨hinv.base.os, hinv.base.tape, hinv.base.output, hinv.base.drawn, hinv.base.size, fun b hb hn => hinv.base.keep b hb hn⟩
    have hk : Keep Z w w'' := hi.keepZ s fun b hb => (d1 b hb).1
    have hzF : ∀ b, Z' b → F2 b → False := fun b hz hF => by
      rcases (hinv.zin b hz).2 with y | y | y
      · exact (hi.fin b (d2 b hF)).2.2 y
      · exact (d1 b y).2 hF
      · have := (hi.fin b (d2 b hF)).1; omega
    refine h ι is hs.2 r' hr w0 F0 Z0 w'' (fun b => F' b ∨ F2 b) Z' _ (by simpa [putT] using hn) ?_ ((hf.st hinv.z0 hk).put (by omega) hv)
    refine hi.step s (fun b hb => (d1 b hb).1) hinv.z0 (fun b hb => ?_) (fun b hb => ?_) (hinv.res.append (h2.st hinv.z0 fun b hb => s.keep b (hb.elim (fun x => (hi.zin b x).1) (fun x => (hi.fin b (d2 b x)).1)) fun hF => ?_) fun b hb hF => ?_)
    · have := hinv.zin b hb
      rcases this.2 with y | y | y
      · exact .inl y
      · exact .inr (.inl (d1 b y).1)
      · exact .inr (.inr ⟨y, this.1⟩)
    · rcases hb with hb | hb
      · have := hinv.fin b hb
        exact ⟨this.2.1.elim (fun z => .inl (d1 b z).1) fun z => .inr ⟨z, this.1⟩, this.2.2⟩
      · exact ⟨.inl (d2 b hb), fun hz => hzF b hz hb⟩
    · rcases hb with x | x
      · exact (hi.fin b (d1 b hF).1).2.2 x
      · exact (d1 b hF).2 x
    · have := hinv.fin b hb
      rcases this.2.1 with y | y
      · exact (d1 b y).2 hF
      · have := (hi.fin b (d2 b hF)).1; omega
theorem sCallH {g : FuncId} {y : Operand} {args : Array Operand} {ts : Array TypeId} {avs : List AV} {Hin : List Res} {Q I : Type} {z : Option Q} {A : Q → I → AV} {B : Q → I → List Res} {r : Q} (js : List Nat) (hg : Ent P g) (hy : arg fr y = some (.lit (.func (.func g) #[] #[]))) (hp : Hands P g avs Hin z A B) (hz : z = some r) (hpk : S.pickR H js = Hin) (ha : ArgsS fr args.toList avs) (hdn : Nat.blt d n = true)
    (h : ∀ ι, SimL P f n ops l k ((d, A r ι) :: fr) (B r ι ++ restR H js) x X K) : SimL P f n ops (⟨some d, .call ⟨.value y, args, ts⟩, ty, pos, aft, none⟩ :: l) k fr H x X K :=
  sCallHg gmN js hg hy hp hz hpk ha hdn h

theorem obj_of {fn : Func} {c : Code} {avs : List AV} {Hin : List Res} {Q I : Type} {y : Option Q} {A : Q → I → AV} {B : Q → I → List Res} {m : Nat} (hf : P.funcs[f]? = some fn) (hb : fn.body = some c) (hm : fn.ntmps = m) (hn : avs.length ≤ m)
    (h : Sim P f m [.code c] (frOf 0 avs) Hin y some fun r a H => ∃ ι, a = A r ι ∧ H = B r ι) : Hands P f avs Hin y A B := by
  subst hm
  exact spec_of hf hb hn h

/-- What is owned in another row. -/
theorem sPk {todo : List Item} {H' : List Res} (js : List Nat) (hH : S.pickR H js = H') (h : Sim P f n todo fr H' x X K) : Sim P f n todo fr H x X K := by
  subst hH
  exact fun r hr w0 F0 Z0 w F Z tmps hn hi hf => h r hr w0 F0 Z0 w F Z tmps hn (hi.less (·.pickR js)) hf
end
end S
end Go.Proofs.Ytpjhcllohagjoaa
