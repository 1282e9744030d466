/-
  Law PackSizes of chapter 18, in plain Lean. Own work; no claim stands here.
-/
import Derived.Test.YtokccimmgilciaaPLaw18b
namespace Go.Proofs.Ytokccimmgilciaa
open S
set_option linter.unusedVariables false
set_option linter.unusedSimpArgs false
set_option maxRecDepth 100000
theorem nodesB_app (a b : List Node) : nodesB (a ++ b) = nodesB a ++ nodesB b := by simp [nodesB]
def nk (k : Int) : Node := ⟨false, 1, (0 : Int), ⟨(0 : Int), (0 : Int), (0 : Int)⟩, (0 : Int), (0 : Int), (0 : Int), ([(⟨(0 : Int), (0 : Int), List.replicate k.toNat (0 : Int)⟩ : Pick), (⟨(0 : Int), (0 : Int), ([] : (List Int))⟩ : Pick)] : List Pick)⟩
theorem nk_ok {k : Int} (h0 : 0 ≤ k) (h : k < 32) : nodeOk (nk k) := by
  have F2z : F2 0 := by decide
  have F1z : F1 0 := by decide
  have F4z : F4 0 := by decide
  refine ⟨.inr ⟨rfl, rfl⟩, ⟨(by show F1 1; decide), F2z, F2z, F1z, F1z, F1z, F1z, F4z, (by show F2 2; decide)⟩, fun p hp => ?_⟩
  rcases List.mem_cons.1 hp with rfl | hp
  · refine ⟨F2z, F1z, (by show F1 ((List.replicate k.toNat (0 : Int)).length : Int); rw [List.length_replicate]; unfold F1; omega), fun x hx => ?_⟩
    rw [List.eq_of_mem_replicate hx]; exact F4z
  · rcases List.mem_cons.1 hp with rfl | hp
    · exact ⟨F2z, F1z, F1z, fun _ h => nomatch h⟩
    · nomatch hp
theorem nk_len {k : Int} (h0 : 0 ≤ k) : ((nodeB (nk k)).length : Int) = 24 + 4 * k := by
  rw [nodeB_len]
  have : (picksB (nk k).Picks).length = 8 + 4 * k.toNat := by
    simp only [nk, picksB, List.map_cons, List.map_nil, List.flatten_cons, List.flatten_nil, List.length_append, pickB_len, List.length_replicate, List.length_nil]
    omega
  rw [this]; omega
theorem sizes_loop (K : Nat) (kids : List Int) (hK : 100 ≤ K) : ∃ r, templelaw18_PackSizes.l0 K kids K (([] : List Node), 10, 0) = some r ∧ (r.1.length ≤ 40 ∧ (∀ x ∈ r.1, nodeOk x) ∧ r.2.1 = 10 + ((nodesB r.1).length : Int) ∧ (nodesB r.1).length ≤ 148 * 40) := by
  refine rounds (I := fun s => ∃ i : Nat, i ≤ 40 ∧ s.2.2 = (i : Int) ∧ s.1.length = i ∧ (∀ x ∈ s.1, nodeOk x) ∧ s.2.1 = 10 + ((nodesB s.1).length : Int) ∧ (nodesB s.1).length ≤ 148 * i) (fun s => 40 - s.2.2.toNat) _ ?_ K _ ⟨0, by omega, rfl, rfl, fun _ h => (nomatch h), rfl, by simp [nodesB]⟩ (by simp; omega)
  rintro ⟨xs, z, i'⟩ m ⟨i, hi, hi', hxl, hok, hz, hle⟩
  simp only at hi' hxl hok hz hle
  subst hi' hz
  simp only [templelaw18_PackSizes.l0]
  by_cases h1 : (i : Int) < (kids.length : Int)
  case neg => rw [if_neg h1]; exact .inl ⟨_, rfl, by simp; omega, hok, rfl, by simp; omega⟩
  rw [if_pos h1]
  by_cases h2 : (i : Int) < 40
  case neg => rw [if_neg h2]; exact .inl ⟨_, rfl, by simp; omega, hok, rfl, by simp; omega⟩
  rw [if_pos h2, if_pos (Int.natCast_nonneg i), and31]
  generalize hk : rd kids (i : Int) % 32 = k
  have k0 : 0 ≤ k := by omega
  have k1 : k < 32 := by omega
  rw [if_pos k0, if_pos (by omega), if_pos (by simp; omega)]
  refine .inr ⟨_, ⟨i + 1, by omega, wr (by omega) (by omega), by simp [hxl], fun x hx => ?_, ?_, ?_⟩, ?_, rfl⟩
  · rcases List.mem_append.1 hx with h | h
    · exact hok x h
    · rw [List.mem_singleton.1 h]; exact nk_ok k0 k1
  · show _ = 10 + ((nodesB (xs ++ [nk k])).length : Int)
    have := nk_len k0
    rw [nodesB_app, List.length_append, show nodesB [nk k] = nodeB (nk k) by simp [nodesB]]
    rw [wr (a := 10 + ((nodesB xs).length : Int) + 16) (by omega) (by omega), wr (a := 10 + ((nodesB xs).length : Int) + 16 + 8) (by omega) (by omega), wr (a := 4 * k) (by omega) (by omega), wr (by omega) (by omega)]
    push_cast; omega
  · show (nodesB (xs ++ [nk k])).length ≤ _
    have := nk_len k0
    rw [nodesB_app, List.length_append, show nodesB [nk k] = nodeB (nk k) by simp [nodesB]]
    omega
  · show 40 - (IntKind.wrap .i64 ((i : Int) + 1)).toNat < 40 - ((i : Int)).toNat
    rw [wr (by omega) (by omega)]; omega

theorem filled_loop (K : Nat) (n : Nat) (hK : n < K) (hn : n ≤ 1000000) : ∃ r, templelaw18_filled.l0 K (n : Int) K (List.replicate n (zNode : Node), 0) = some r ∧ r.1 = List.replicate n zNode := by
  refine rounds (I := fun s => ∃ i : Nat, i ≤ n ∧ s = (List.replicate n (zNode : Node), (i : Int))) (fun s => n - s.2.toNat) _ ?_ K _ ⟨0, by omega, rfl⟩ (by simp; omega)
  rintro _ m ⟨i, hi, rfl⟩
  simp only [templelaw18_filled.l0]
  by_cases h1 : (i : Int) < (n : Int)
  case neg => rw [if_neg h1]; exact .inl ⟨_, rfl, rfl⟩
  have hz : rd (List.replicate n (zNode : Node)) (i : Int) = zNode := List.eq_of_mem_replicate (rd_mem (Int.natCast_nonneg i) (by rw [List.length_replicate]; omega))
  have hs : (List.replicate n (zNode : Node)).set i zNode = List.replicate n zNode := by
    apply List.ext_getElem <;> simp [List.getElem_set]
  rw [if_pos h1, if_pos (Int.natCast_nonneg i), if_pos (by rw [List.length_replicate]; omega), hz, Int.toNat_natCast, wr (a := (i : Int) + 1) (by omega) (by omega)]
  refine .inr ⟨_, ⟨i + 1, by omega, rfl⟩, ?_, ?_⟩
  · show n - ((i : Int) + 1).toNat < n - ((i : Int)).toNat
    omega
  · show templelaw18_filled.l0 K (n : Int) m ((List.replicate n (zNode : Node)).set i zNode, (i : Int) + 1) = _
    rw [hs]; rfl
theorem filled_spec (K : Nat) (n : Nat) (hK : n < K) (hn : n ≤ 1000000) : templelaw18_filled K (n : Int) = some (List.replicate n zNode) := by
  obtain ⟨r, h1, h2⟩ := filled_loop K n hK hn
  unfold templelaw18_filled
  rw [if_pos (Int.natCast_nonneg n), if_pos (by omega), Int.toNat_natCast, h1, Option.bind_some]
  obtain ⟨a, b⟩ := r
  simp only at h2
  rw [h2]
theorem z_ok : nodeOk zNode := ⟨.inl ⟨rfl, rfl⟩, ⟨(by decide), (by decide), (by decide), (by decide), (by decide), (by decide), (by decide), (by decide), (by decide)⟩, fun _ h => nomatch h⟩
theorem nodesB_rep (n : Nat) : (nodesB (List.replicate n zNode)).length = 16 * n := by
  induction n with
  | zero => rfl
  | succ n ih => rw [List.replicate_succ, show nodesB (zNode :: List.replicate n zNode) = nodeB zNode ++ nodesB (List.replicate n zNode) by simp [nodesB], List.length_append, ih, nodeB_len]; simp [zNode, picksB]; omega
theorem rep_ok (n : Nat) : certOk ⟨0, List.replicate n zNode⟩ := ⟨(show F4 0 by decide), fun x hx => by rw [List.eq_of_mem_replicate hx]; exact z_ok⟩
theorem put_rep (K n : Nat) (hK : 70000 ≤ K) (hn : n < 70000) : pack_Put K ⟨0, List.replicate n zNode⟩ = some (if n ≤ 65535 then (strL (certB ⟨0, List.replicate n zNode⟩), 0) else (⟨#[]⟩, 1801)) := by
  have hl : (certB ⟨0, List.replicate n zNode⟩).length = 10 + 16 * n := by rw [certB_len]; simp only [nodesB_rep]
  obtain ⟨r, h1, h2⟩ := Put_spec K (by omega) ⟨0, List.replicate n zNode⟩ (sm_of_ok (rep_ok n)) ⟨(by simp; omega), (fun x hx => by rw [List.eq_of_mem_replicate hx]; simp [zNode]; omega), (fun x hx p hp => by rw [List.eq_of_mem_replicate hx] at hp; simp [zNode] at hp), fun x hx => by rw [List.eq_of_mem_replicate hx, nodeB_len]; simp [zNode, picksB]⟩
  rw [h1]
  congr 1
  split
  · exact h2.uniq (.inr (.inr ⟨rep_ok n, by simp; omega, by omega, rfl⟩))
  · exact h2.uniq (.inr (.inl ⟨rep_ok n, .inr (by omega), rfl⟩))
theorem PackSizes_true (K : Nat) (hK : 70000 ≤ K) (kids : List Int) (more : Int) : templelaw18_PackSizes K kids more = some true := by
  obtain ⟨⟨xs, z, i⟩, h1, h2, h3, h4, h5⟩ := sizes_loop K kids (by omega)
  simp only at h2 h3 h4 h5
  have hok : certOk ⟨0, xs⟩ := ⟨(show F4 0 by decide), h3⟩
  have hl : (certB ⟨0, xs⟩).length = 10 + (nodesB xs).length := certB_len _
  unfold templelaw18_PackSizes
  rw [awake18 K hK, Option.bind_some, if_neg (by decide), h1]
  simp only [Option.bind_some]
  rw [Put_ok hK hok (by simp; omega) (by omega)]
  simp only [Option.bind_some, templelaw0_Num, brk]
  rw [if_neg (by decide), strL_size, hl, h4, if_neg (by simp), and3]
  have hw : IntKind.wrap .i64 (65535 + more % 4) = 65535 + more % 4 := wr (by omega) (by omega)
  obtain ⟨n, hn⟩ : ∃ n : Nat, 65535 + more % 4 = (n : Int) := ⟨(65535 + more % 4).toNat, by omega⟩
  rw [hw, hn, filled_spec K n (by omega) (by omega)]
  simp only [Option.bind_some]
  rw [put_rep K n hK (by omega)]
  have hl2 : (certB ⟨0, List.replicate n zNode⟩).length = 10 + 16 * n := by rw [certB_len]; simp only [nodesB_rep]
  have w1 : IntKind.wrap .i64 (16 * (n : Int)) = 16 * (n : Int) := wr (by omega) (by omega)
  have w2 : IntKind.wrap .i64 (10 + 16 * (n : Int)) = 10 + 16 * (n : Int) := wr (by omega) (by omega)
  rw [w1, w2]
  by_cases c : n ≤ 65535
  · rw [if_pos c]
    simp only [Option.bind_some]
    have hn' : n = 65535 := by omega
    simp only [strL_size, hl2]
    clear h1 hl hl2 w1 w2 hw hn
    subst hn'
    rfl
  · rw [if_neg c]
    simp only [Option.bind_some]
    by_cases c2 : (n : Int) ≤ 65536
    · rw [if_pos c2, if_neg (by rw [decide_eq_false (by decide), decide_eq_false (by omega)]; exact fun h => h rfl)]
      rfl
    · rw [if_neg c2]
      rfl
theorem PackSizes_holds (kids : List Int) (more : Int) : ∃ K, templelaw18_PackSizes K kids more = some true := ⟨70000, PackSizes_true _ (by omega) kids more⟩
end Go.Proofs.Ytokccimmgilciaa
