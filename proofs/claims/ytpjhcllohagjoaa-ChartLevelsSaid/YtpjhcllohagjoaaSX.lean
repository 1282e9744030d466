/-
  Sim: slices.SortFunc of a slice that the call owns, out of the shelf's contract. Own work; no claim stands here.
-/
import Derived.Test.YtpjhcllohagjoaaSW
import Derived.Shelf.SlSortCmp.InsertionK
namespace Go.Proofs.Ytpjhcllohagjoaa
namespace S
open Go.RowKit Go.Sort
set_option linter.unusedVariables false
set_option linter.unusedSimpArgs false
set_option linter.unusedSectionVars false

theorem world_grown {W w' : World} (hb : Base W w' (fun _ => False)) : ∃ q os', w' = grow (W.drewN q) os' := by
  obtain ⟨h1, h2, h3, h4, h5, h6⟩ := hb
  refine ⟨w'.drawn - W.drawn, w'.heap.extract W.heap.size w'.heap.size, ?_⟩
  have hh : w'.heap = W.heap ++ w'.heap.extract W.heap.size w'.heap.size := by
    apply Array.ext_getElem?
    intro i
    rw [Array.getElem?_append]
    split
    · rename_i hi; exact h6 i hi id
    · rename_i hi
      rw [Array.getElem?_extract]
      split
      · congr 1; omega
      · rw [Array.getElem?_eq_none (by omega)]
  cases W; cases w'
  simp only at h1 h2 h3 h4 hh
  simp only [grow, World.drewN, World.mk.injEq]
  exact ⟨hh, h2, by omega, h1, h3⟩

theorem allP_of_lits {Z : Nat → Prop} {w : World} : ∀ us : List Value, AllP Z w (us.map AV.lit) us
  | [] => .nil
  | _ :: us => .cons rfl (allP_of_lits us)

section
variable {P : Program} {κ : Type} [Inhabited κ] {c : Co κ} {lits : κ → List Value}

theorem lits_len (hl : ∀ x, c.e x = (lits x).map AV.lit) (x : κ) : (lits x).length = c.sz := by
  have := c.len x; rw [hl, List.length_map] at this; exact this

theorem cmpLays_of (hl : ∀ x, c.e x = (lits x).map AV.lit) {cf : κ → κ → Int} {gc : Nat} (hcmp : ∀ x y, Pure P gc [.agg (c.e x), .agg (c.e y)] (some (cf x y)) fun r => Ai .i64 r) (blk off size : Nat) (w : World) :
    CmpLays P gc #[] lits c.sz cf blk off size w := by
  intro m os dk hs x y
  have hx : ∀ z : κ, (AV.agg (c.e z)).p (fun _ => False) (sortWorldK lits c.sz w blk off m dk os) (.agg (lits z).toArray) := fun z => ⟨lits z, rfl, by rw [hl]; exact allP_of_lits _⟩
  have := hcmp x y _ rfl (sortWorldK lits c.sz w blk off m dk os) (fun _ => False) (fun _ => False) [.agg (lits x).toArray, .agg (lits y).toArray] (.cons (hx x) (.cons (hx y) .nil)) ⟨Base.refl _ _, fun _ h => h, fun _ h => h.elim, fun _ h => h.elim, trivial⟩
  refine this.mono ?_
  rintro e w' ⟨v, rfl, F, Z, av, H, ⟨rfl, rfl⟩, hinv, hv⟩
  have hv' : v = .int .i64 (cf x y) := hv
  subst hv'
  exact ⟨rfl, world_grown hinv.base⟩

/-- What an owned row of literals holds, cell by cell. -/
theorem own_lits (hl : ∀ x, c.e x = (lits x).map AV.lit) {Z : Nat → Prop} {w : World} {xs : List κ} {cs : List Value} (hr : Rows c Z w xs cs) (j : Nat) (hj : j < xs.length * c.sz) : cs[j]? = some ((flatK lits c.sz xs.toArray)[j]!) := by
  have hpos := c.pos
  have hi : j / c.sz < xs.length := by rw [Nat.div_lt_iff_lt_mul hpos]; exact hj
  have hx : xs[j / c.sz]? = some xs[j / c.sz] := by simp [hi]
  obtain ⟨vs, h1, h2⟩ := hr _ _ hx
  rw [hl] at h1
  have hvs := allP_lits h1
  subst hvs
  have hm : j % c.sz < (lits xs[j / c.sz]).length := by rw [lits_len hl]; exact Nat.mod_lt _ hpos
  have := h2 (j % c.sz) ((lits xs[j / c.sz])[j % c.sz]) (by simp [hm])
  rw [Nat.div_add_mod'] at this
  rw [this, get_flatK _ _ _ _ (by simpa using hj)]
  congr 1
  simp [hi, hm]
theorem rows_flat (hl : ∀ x, c.e x = (lits x).map AV.lit) (Z : Nat → Prop) (w : World) (ys : List κ) : Rows c Z w ys (flatK lits c.sz ys.toArray).toList := by
  intro i x hx
  have hi : i < ys.length := (List.getElem?_eq_some_iff.1 hx).1
  refine ⟨lits x, by rw [hl]; exact allP_of_lits _, fun q u hq => ?_⟩
  have hql : q < c.sz := by rw [← lits_len hl x]; exact (List.getElem?_eq_some_iff.1 hq).1
  have hj : i * c.sz + q < ys.length * c.sz := by
    have := Nat.mul_le_mul_right c.sz (show i + 1 ≤ ys.length from hi)
    rw [Nat.add_mul] at this; omega
  have h1 : (i * c.sz + q) / c.sz = i := by rw [Nat.mul_comm, Nat.mul_add_div c.pos, Nat.div_eq_of_lt hql, Nat.add_zero]
  have h2 : (i * c.sz + q) % c.sz = q := by rw [Nat.mul_comm, Nat.mul_add_mod, Nat.mod_eq_of_lt hql]
  have := get_flatK lits c.sz ys.toArray (i * c.sz + q) (by simpa using hj)
  rw [h1, h2] at this
  have hsz : i * c.sz + q < (flatK lits c.sz ys.toArray).toList.length := by simpa using hj
  rw [List.getElem?_eq_getElem hsz]
  rw [getElem!_pos _ _ (by simpa using hj)] at this
  simp only [Array.getElem_toList, this]
  obtain ⟨hq1, hq2⟩ := List.getElem?_eq_some_iff.1 hq
  have hxi : ys[i] = x := (List.getElem?_eq_some_iff.1 hx).2
  simp [hi, hxi, hq1, hq2]
end
end S
end Go.Proofs.Ytpjhcllohagjoaa
