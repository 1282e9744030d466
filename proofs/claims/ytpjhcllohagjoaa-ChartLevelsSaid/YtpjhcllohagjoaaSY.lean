/-
  Sim: slices.SortFunc of a slice that the call owns. Own work; no claim stands here.
-/
import Derived.Test.YtpjhcllohagjoaaSX
import Derived.Shelf.SlSortCmp.NoneTotal
namespace Go.Proofs.Ytpjhcllohagjoaa
namespace S
open Go.RowKit Go.Sort
set_option linter.unusedVariables false
set_option linter.unusedSimpArgs false
set_option linter.unusedSectionVars false

/-- What sorting leaves. -/
def SortedBy {κ : Type} [Inhabited κ] (cf : κ → κ → Int) (ys : List κ) : Prop := SortedIn (ltOf cf) 0 ys.length ys.toArray

set_option maxHeartbeats 1000000 in
theorem sortFn {P : Program} {ρ : Go.Shelf.Ren} (L : SlLaysF0.n6 P ρ) {κ : Type} [Inhabited κ] {c : Co κ} {lits : κ → List Value} (hl : ∀ x, c.e x = (lits x).map AV.lit) (h1 : ∀ x, ∀ v ∈ lits x, v.oneCell' = true)
    (gE : IsAgg P (ρ.t 24) true) (zE : SizeIs P (ρ.t 24) c.sz) {cf : κ → κ → Int} (hO : SWO (ltOf cf)) {gc : Nat} (hgc : Ent P gc) (hcmp : ∀ x y, Pure P gc [.agg (c.e x), .agg (c.e y)] (some (cf x y)) fun r => Ai .i64 r) {v : Value} {xs : List κ} (hlen : xs.length < 4611686018427387904) :
    Spec P (ρ.f 6) [.sv v, .lit (.func (.func gc) #[] #[])] [.own (ρ.t 24) c v xs] fun a H => ∃ ys, ys.Perm xs ∧ SortedBy cf ys ∧ H = [.own (ρ.t 24) c v ys] := by
  intro w F Z vs hvs hi
  cases hvs with
  | @cons _ u _ vs' hu hvs' =>
  cases hvs' with
  | @cons _ fv _ vs'' hfv hvs'' =>
  cases hvs''
  obtain ⟨rfl, _⟩ := hu
  have hfv' : fv = .func (.func gc) #[] #[] := hfv
  subst hfv'
  obtain ⟨F1, hown, hF1⟩ := hi.res.at (j := 0) rfl
  obtain ⟨A, m, hv⟩ := own_sv hown
  by_cases hx : xs = []
  · subst hx
    rw [hv]
    refine (AnyF.slices_SortFunc_none L A m (.func (.func gc) #[] #[]) w).mono ?_
    rintro e w' ⟨rfl, rfl⟩
    rw [← hv]
    exact ⟨_, rfl, F, Z, .any, _, ⟨[], List.Perm.refl _, fun i j _ _ h => by simp at h, rfl⟩, hi, trivial⟩
  have hx0 : xs.length ≠ 0 := fun h => hx (List.length_eq_zero_iff.1 h)
  obtain ⟨cs, ⟨hcl, hor⟩, hb, hrows⟩ | ⟨rfl, _⟩ := hown
  case inr => exact absurd rfl hx
  rcases hor with ⟨_, hn0⟩ | ⟨g, cap, cur, hvg, hg, ⟨fz, hh, hfz⟩, hcap, hmx, hcs, htk⟩
  · exact absurd hn0 hx0
  have hgl : g < w.heap.size := (Array.getElem?_eq_some_iff.1 hh).1
  have hnk : xs.length * c.sz ≤ cap * c.sz := Nat.mul_le_mul_right _ hcap
  have hcell : ∀ j, j < xs.length * c.sz → cur[j]? = some ((flatK lits c.sz xs.toArray)[j]!) := fun j hj => by
    have := own_lits hl hrows j hj
    rw [← htk, List.getElem?_take, if_pos hj] at this
    simpa using this
  have hH : HoldsK lits c.sz w g 0 xs.toArray := by
    intro j hj
    rw [size_flatK] at hj
    have hj' : j < xs.length * c.sz := by simpa using hj
    refine ⟨?_, ?_⟩
    · simp only [World.cell?, hh, Nat.zero_add]
      simpa using hcell j hj'
    · simp only [World.frozen?, hh, Nat.zero_add]
      rcases hfz with rfl | hfz
      · simp
      · have : ¬ fz.1 ≤ j := by omega
        simp [this]
  have hcall := AnyQ.slices_SortFunc L c.sz gE zE lits (lits_len hl) h1 cf hO gc #[] g 0 cap xs.toArray w hgc (cmpLays_of hl hcmp g 0 xs.toArray.size w) hH hgl (by simpa using hlen)
  rw [show (xs.toArray.size) = xs.length from by simp, ← hvg] at hcall
  refine hcall.mono ?_
  rintro e w' ⟨rfl, d', n, os, hperm, hsort, rfl⟩
  have hds : d'.size = xs.length := by simpa using hperm.1
  have hpl : d'.toList.Perm xs := by
    have := (show (d'.extract 0 xs.length).toList.Perm (xs.toArray.extract 0 xs.length).toList from by simpa [hds] using hperm.2.2)
    rw [show d'.extract 0 xs.length = d' from by rw [← hds]; exact Array.extract_size, show xs.toArray.extract 0 xs.length = xs.toArray from by rw [show xs.length = xs.toArray.size from by simp]; exact Array.extract_size] at this
    simpa using this
  obtain ⟨F', hi', hk⟩ := hi.turn (w' := sortWorldK lits c.sz w g 0 n d' os) (r' := .own (ρ.t 24) c u d'.toList) (j := 0) rfl fun F1 hown1 hz1 => by
    have hg1 : F1 g := by
      obtain ⟨_, _, hb1, _⟩ | ⟨rfl, _⟩ := hown1
      · exact hb1 g (by rw [hvg]; rfl)
      · exact absurd rfl hx
    refine ⟨F1, ⟨rfl, rfl, rfl, Nat.le_add_right _ _, by simp [sortWorldK, grow, putRowK, putRow, mapBlock, ahead], fun b hbl hnb => ?_⟩, .inl ⟨(flatK lits c.sz d').toList, ⟨by simp [hds], .inr ⟨g, cap, putCells id 0 (flatK lits c.sz d') cur, by simpa [hds] using hvg, Nat.zero_le _, ⟨fz, ?_, by simpa [putCells] using hfz⟩, by simpa [hds] using hcap, hmx, by simpa [putCells] using hcs, ?_⟩⟩, fun b hb' => ?_, ?_⟩, fun _ h => .inl h⟩
    · have hne : g ≠ b := fun e => hnb (e ▸ hg1)
      simp only [sortWorldK, grow, putRowK, putRow, mapBlock, ahead]
      rw [Array.getElem?_append_left (by simpa using hbl), Array.getElem?_modify, if_neg hne]
      rfl
    · simp only [sortWorldK, grow, putRowK, putRow, mapBlock, ahead]
      rw [Array.getElem?_append_left (by simpa using hgl), Array.getElem?_modify, if_pos rfl, show (Sort.ahead w n).heap = w.heap from rfl, hh]
      rfl
    · apply List.ext_getElem?
      intro j
      have hsz : (flatK lits c.sz d').size = xs.length * c.sz := by simp [hds]
      rw [List.getElem?_take]
      simp only [Array.length_toList, hds]
      split
      · rename_i hj
        simp only [Array.getElem?_toList, putCells, Array.getElem?_mapIdx, Nat.zero_add, Nat.zero_le, true_and, Nat.sub_zero, hsz, hj, if_true, hcell j hj, Option.map_some, id]
        rw [Array.getElem?_eq_getElem (by omega), getElem!_pos _ _ (by omega)]
      · rename_i hj
        rw [List.getElem?_eq_none (by simp [hds]; omega)]
    · have : b = g := by rw [hvg] at hb'; simpa [Value.ownBlock] using hb'.symm
      subst this; exact hg1
    · have := rows_flat hl Z (sortWorldK lits c.sz w g 0 n d' os) d'.toList
      simpa using this
  exact ⟨_, rfl, F', Z, .any, _, ⟨d'.toList, hpl, by unfold SortedBy; simpa [hds] using hsort, rfl⟩, hi', trivial⟩
end S
end Go.Proofs.Ytpjhcllohagjoaa
