/-
  Package shard: going through no shard at all: no round.
  No condition.
-/
import Derived.Test.YtlnmnnoibimknabShS2
import Derived.Test.YtlnmnnoibimknabSegIn
import Derived.Test.YtlnmnnoibimknabRangeX
namespace Go.Proofs.Ytlnmnnoibimknab.ShS
open Go.RowKit Go.Seg Go.Open Go.Lib Rk

theorem AllE_nil (w : World) : Calls Try.prog 90 #[.pointer none] w fun e w' =>
    e = .returned (.func (.func 134) #[] #[.pointer (some ⟨w.heap.size, 0, none⟩)]) ∧ w' = w.alloc (.cells #[.pointer none] 125) := by
  go_enter Try.func90, Try.ntmps90
  go_wp2_with fail
  go_ret
  exact ⟨rfl, rfl⟩
theorem SAll_nil (w : World) : Calls Try.prog 42 #[.pointer none] w fun e w' =>
    e = .returned (.func (.func 134) #[] #[.pointer (some ⟨w.heap.size, 0, none⟩)]) ∧ w' = w.alloc (.cells #[.pointer none] 125) := by
  go_enter Try.func42, Try.ntmps42
  go_wp2_with fail
  refine (AllE_nil _).mono ?_
  rintro e w' ⟨rfl, rfl⟩
  go_wp2_with fail
  go_ret
  exact ⟨rfl, rfl⟩

/-- What All of no shard hands back has no round. -/
theorem none_stops (n Bt n₀ : Nat) (w : World) (hBt : Bt < w.heap.size) (hc : w.cell? ⟨Bt, 0, none⟩ = some (.pointer none)) :
    SeqStopsK Fence.wide n Try.prog 134 #[.pointer (some ⟨Bt, 0, none⟩)] (fun _ : Unit => #[Value.int .u64 0, Value.agg #[]]) (Below n₀) (fun ys => ys = []) (fun _ => False) 0 w := fun l J Jx W hW hJ _ hY h0 => by
  have c0 := (hW.cell (p := ⟨Bt, 0, none⟩) hBt).trans hc
  have H0 := Lib.hid h0
  clear hY h0 hc hW hJ
  refine callsIn_wide.2 ?_
  go_enter Try.func134, Try.ntmps134
  go_wp2_with fail
  go_end0
  exact ⟨⟨_, rfl⟩, .inl ⟨[], rfl, H0.out⟩⟩
end Go.Proofs.Ytlnmnnoibimknab.ShS
