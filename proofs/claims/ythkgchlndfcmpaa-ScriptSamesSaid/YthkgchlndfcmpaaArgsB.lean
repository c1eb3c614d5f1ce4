/- An argument of bytes, as a list of bytes. -/
import Derived.Test.YthkgchlndfcmpaaArgs
import Derived.Test.YthkgchlndfcmpaaLe1
namespace Go.Proofs.Ythkgchlndfcmpaa
open Go.ChangeShapes Go.WideShapes Go.ChangeAt Go.RowKit
set_option maxRecDepth 100000

theorem bytes_of (zs : List Int) (h : ∀ n ∈ zs, (Lit.int .u8 n).wf = true) : ∃ l : List UInt8, zs.map (Value.int .u8) = bv l ∧ l.length = zs.length := by
  refine ⟨zs.map fun n => UInt8.ofNat n.toNat, ?_, by simp⟩
  unfold bv
  rw [List.map_map]
  refine List.map_congr_left fun n hn => ?_
  have := wf_u8 (h n hn)
  show Value.int .u8 n = Value.int .u8 ((UInt8.ofNat n.toNat).toNat : Int)
  rw [u8_toNat]
  congr 1
  omega
theorem argBy {w : World} {A : Option Addr} {len cap : Nat} {zs : List Int} (h : ArgRow .u8 w A len cap zs) : ∃ l : List UInt8, By w (fun _ => True) (.slice A len cap) l ∧ l.length = len := by
  obtain ⟨h1, h2, h3, h4, h5⟩ := h
  obtain ⟨l, hl, hn⟩ := bytes_of zs h4
  have hz : zs.length = len := by have := h3.1; simpa using this
  rw [hl] at h3
  refine ⟨l, ⟨A, cap, ?_, by omega, h2, h5, ?_⟩, by omega⟩
  · rw [show l.length = len by omega]
  · rw [Nat.mul_one, show l.length = len by omega]; exact h3
end Go.Proofs.Ythkgchlndfcmpaa
