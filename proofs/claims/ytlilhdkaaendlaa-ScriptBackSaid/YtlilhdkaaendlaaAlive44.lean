/- handcartlaw44.alive: the chapter's example. No statement is proved here. -/
import Derived.Test.YtlilhdkaaendlaaLinesA
namespace Go.Proofs.Ytlilhdkaaendlaa
open Go.RowKit

def ev0 : Ev := { kind := 1, rep := 0, okind := 1, cart := 1, item := [99, 117, 112, 0, 0, 0, 0, 0], onN := 2 }
def line0 : ByteArray := ⟨#[100, 111, 32, 48, 32, 97, 100, 100, 32, 49, 32, 99, 117, 112, 32, 50]⟩
set_option maxRecDepth 100000 in
theorem ev0_eq : evM (lineW line0) = (ev0, 0) := by
  rfl
set_option maxRecDepth 100000 in
set_option maxHeartbeats 800000 in
theorem alive44_c (w : World) : Calls Try.prog 7 #[] w fun x w' => x = .returned (.bool true) ∧ Only No w w' := by
  have HE := fun W : World => Lib.hid (show Calls Try.prog 13 #[.string ⟨#[100, 111, 32, 48, 32, 97, 100, 100, 32, 49, 32, 99, 117, 112, 32, 50]⟩] W (EvR (ev0, 0) W) from by
    have h := event_c line0 W (by decide)
    rw [ev0_eq] at h
    exact h)
  have hok : ev0.Ok := ⟨rfl, rfl⟩
  have HOP : ∀ W : World, (Op.equalIn 10000 51 (.agg (opOf ev0).toArray) (.agg #[.int .i64 1, .int .u16 1, .int .u8 99, .int .u8 117, .int .u8 112, .int .u8 0, .int .u8 0, .int .u8 0, .int .u8 0, .int .u8 0, .int .i64 2, .int .u8 0, .int .u8 0, .int .u8 0, .int .u8 0, .int .u8 0, .int .u8 0, .int .u8 0, .int .u8 0])).run Try.prog W = .ok true W := fun W => opEq_c ev0 ev0 hok hok W
  go_enter Try.func7, Try.ntmps7
  go_wp2_with fail
  refine (HE _).out.mono ?_
  rintro x w1 ⟨dv, rfl, hd, -, hO⟩
  have hone : dv.oneCell' = true := by obtain ⟨da, dc, hq, -⟩ := hd.form; rw [hq]; rfl
  have hbn := Blk.new w1 zero25 55
  have hb : Blk ((w1.alloc (.cells zero25 55)).setRow w1.heap.size (evA ev0 dv)) w1.heap.size (evA ev0 dv) 55 := blk_setRow hbn _
  have hO2 : Only No w1 ((w1.alloc (.cells zero25 55)).setRow w1.heap.size (evA ev0 dv)) := only_setRow ((Only.refl _ _).alloc _) _ _ (fun hk => absurd hk (Nat.lt_irrefl _))
  have c0 : ((w1.alloc (.cells zero25 55)).setRow w1.heap.size (evA ev0 dv)).cell? ⟨w1.heap.size, 0, none⟩ = some (.int .i64 1) := hb.cell 0 _ rfl
  have HR := Lib.hid (hb.op hok)
  have HI := Lib.hid (info_op hok)
  have HF := Lib.hid (hO.trans hO2)
  have HBN := Lib.hid hbn
  clear hb hO2 hO hd hbn
  go_wp2_with (first
    | (refine wpList_store_row rfl 55 (.tmp 1) (.tmp 5) rfl w1.heap.size (evA ev0 dv) rfl rfl _ _ HBN.out (info_evA hok _) (by rw [evA_size hok]; rfl) (one_evA _ hone) ?_)
    | (refine wpList_load_midG (by rfl) 51 (.tmp 15) rfl w1.heap.size 5 rfl (opOf ev0) _ HR.out Try.underlying51 rfl HI.out ?_))
  go_ret
  exact ⟨rfl, HF.out⟩
end Go.Proofs.Ytlilhdkaaendlaa
