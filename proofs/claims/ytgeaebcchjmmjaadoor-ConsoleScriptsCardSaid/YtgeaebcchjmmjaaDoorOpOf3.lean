/- What Of of package op answers, whatever the row of numbers is. -/
import Derived.Test.YtgeaebcchjmmjaaDoorOpOf2
namespace Go.Proofs.YtgeaebcchjmmjaaDoor
open Go.RowKit
theorem opOf_any {v : Value} {ns : List Int} (t : ByteArray) {w : World} (h : IntsAt w v ns) (ht : t.size ≤ 9223372036854775807) : Calls Tryd.prog 52 #[.agg #[v, .string t]] w (OfEnd (ofE ns t) w) := by
  obtain ⟨h1, h2, ⟨rfl, A, c, rfl⟩ | ⟨b, o, cap, rfl, h4, h5⟩⟩ := h
  · exact opOf_none A c t w
  · cases ns with
    | nil => exact opOf_none _ _ t w
    | cons k r =>
      simp only [List.length_cons] at h2 h4 ⊢
      refine opOf_some b o cap k r t w (h1 k (by simp)) (by omega) ht ?_ (fun j n hj => h5 (j + 1) n (by simpa using hj))
      have := h5 0 k (by simp)
      simpa using this
end Go.Proofs.YtgeaebcchjmmjaaDoor
