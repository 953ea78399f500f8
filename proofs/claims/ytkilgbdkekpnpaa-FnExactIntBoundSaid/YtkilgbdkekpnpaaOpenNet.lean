/- The laws' argument that is an integer network, opened. -/
import Derived.Test.YtkilgbdkekpnpaaOpen
namespace Go.Proofs.Ytkilgbdkekpnpaa
open Go.RowKit Go.ChangeShapes Go.WideShapes Go.ChangeAt Go.Deep

theorem intNetwork_open {H : Type} {enc : TypeId × Value → H} {W : World} {v : Value} {d : DataW H} {p : List MemPlace} (hv : Value.okWide Try.prog W .any 0 24 v)
    (h : DataW.Trod enc Try.prog W 0 (fun _ => true) true 24 v d p) : ∃ A c ts, v = .agg #[.slice A (ts : List Ten).length c] ∧ Tens W A c ts := by
  obtain ⟨cs, rfl, hsz⟩ := okWide_struct Try.underlying24 hv
  obtain ⟨fuel, hf⟩ := h
  obtain ⟨xs, m, _, _, hlen, hxl, hg⟩ := DataW.trod_struct Try.underlying24 hf
  have hC : Try.prog.cellsOf 24 = 1 := by kernel_rfl
  rw [hC] at hsz
  obtain ⟨l⟩ := cs
  match l, hsz, xs, hxl with
  | [v0], _, [y0], _ =>
    have h0 := hg 0 _ rfl
    have h0' : DataW.trod enc Try.prog W 0 (fun _ => true) true m 22 [v0] = some y0 := by
      have e : Try.prog.cellsOf 22 = 1 := by kernel_rfl
      simpa [Value.cells, e] using h0
    obtain ⟨A, c, ts, rfl, ht⟩ := tens_open Try.underlying22 Try.underlying85 (by kernel_rfl) (by kernel_rfl) rfl rfl rfl Try.underlying36 Try.underlying3 (by kernel_rfl) h0'
    exact ⟨A, c, ts, rfl, ht⟩

end Go.Proofs.Ytkilgbdkekpnpaa
