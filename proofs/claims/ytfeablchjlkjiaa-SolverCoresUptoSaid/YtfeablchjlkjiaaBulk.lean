/-
  WHAT THE BOUND OF THE SECOND FORM GIVES: a list that came in is no longer than the bound.
-/
import Derived.Test.YtfeablchjlkjiaaRows
import Derived.Deep.Slices
namespace Go.Proofs.Ytfeablchjlkjiaa.Bulk
open Go.ChangeShapes Go.WideShapes

theorem one_le {H : Type} (d : DataW H) : 1 ≤ Rows.uptoBulk d := by
  cases d with
  | lit l => cases l <;> simp [Rows.uptoBulk]
  | nil => simp [Rows.uptoBulk]
  | ptr d => simp [Rows.uptoBulk]
  | slice elems spare => simp [Rows.uptoBulk]
  | agg parts => simp [Rows.uptoBulk]
  | iface t d => simp [Rows.uptoBulk]
  | map entries => simp [Rows.uptoBulk]
  | held h => simp [Rows.uptoBulk]
theorem part_le {H : Type} {d : DataW H} {l : List (DataW H)} (h : d ∈ l) : Rows.uptoBulk d ≤ Rows.uptoBulkAll l := by
  induction l with
  | nil => cases h
  | cons x r ih =>
    simp only [Rows.uptoBulkAll]
    cases List.mem_cons.1 h with
    | inl e => subst e; omega
    | inr e => have := ih e; omega
theorem length_le {H : Type} (l : List (DataW H)) : l.length ≤ Rows.uptoBulkAll l := by
  induction l with
  | nil => simp [Rows.uptoBulkAll]
  | cons x r ih => have := one_le x; simp only [Rows.uptoBulkAll, List.length_cons]; omega
theorem bound {H : Type} {l : List (DataW H)} (hk : Rows.uptoSmall H l = true) : Rows.uptoBulkAll l ≤ 1048576 := by
  simpa [Rows.uptoSmall] using hk

/-- A slice that came in is no longer than its bulk. -/
theorem slice_le {P : Program} {t e : TypeId} (ht : P.underlying t = some (.slice e)) {H : Type} {enc : TypeId × Value → H} {w : World} {A : Option Addr} {n c : Nat} {d : DataW H} {ps : List MemPlace} (h : DataW.Trod enc P w 0 (fun _ => true) true t (.slice A n c) d ps) : n ≤ Rows.uptoBulk d := by
  obtain ⟨fuel, hf⟩ := h
  rcases Deep.open_slice ht hf with ⟨hcs, _⟩ | ⟨a, len, cap, m, k, D, Pl, hcs, _, hl, hm, hmm, hx, _⟩
  · have hcs' : [Value.slice A n c] = [.slice none 0 0] := by simpa [Value.cells] using hcs
    injection hcs' with h1 _
    injection h1 with _ h2 _
    omega
  · have hcs' : [Value.slice A n c] = [.slice (some a) len cap] := by simpa [Value.cells] using hcs
    injection hcs' with h1 _
    injection h1 with _ h2 _
    have hd := (Prod.mk.inj hx).1
    subst hd h2
    have := length_le ((List.range n).map D)
    simp only [Rows.uptoBulk]
    rw [List.length_map, List.length_range] at this
    omega
/-- .. nor than the bound. -/
theorem arg_le {P : Program} {t e : TypeId} (ht : P.underlying t = some (.slice e)) {H : Type} {enc : TypeId × Value → H} {w : World} {A : Option Addr} {n c : Nat} {d : DataW H} {ps : List MemPlace} (h : DataW.Trod enc P w 0 (fun _ => true) true t (.slice A n c) d ps) {ds : List (DataW H)} (hd : d ∈ ds) (hk : Rows.uptoSmall H ds = true) : n ≤ 1048576 :=
  Nat.le_trans (slice_le ht h) (Nat.le_trans (part_le hd) (bound hk))
end Go.Proofs.Ytfeablchjlkjiaa.Bulk
