/-
  LISTS OF ARGUMENTS: from cells to typed data.
-/
import Derived.Test.YtfeepndphaboeaaAb25
set_option linter.unusedVariables false
set_option linter.unusedSimpArgs false
namespace Go.Proofs.Ytfeepndphaboeaa.Ab
open Go
theorem list_of {P : Program} {e : TypeId} {b : Bool} {α : Type} {f : α → D} (h1 : ∀ x, Is P e x → ∃ t, pack b x = f t) : ∀ (L : List (List D)), (∀ x ∈ L, Is P e x) → ∃ l : List α, L.map (pack b) = l.map f ∧ l.length = L.length
  | [], _ => ⟨[], rfl, rfl⟩
  | x :: L, h => by
    obtain ⟨t, ht⟩ := h1 x (h x List.mem_cons_self)
    obtain ⟨l, hl, hn⟩ := list_of h1 L (fun y hy => h y (List.mem_cons_of_mem _ hy))
    exact ⟨t :: l, by rw [List.map_cons, List.map_cons, hl, ht], by simp [hn]⟩
end Go.Proofs.Ytfeepndphaboeaa.Ab
