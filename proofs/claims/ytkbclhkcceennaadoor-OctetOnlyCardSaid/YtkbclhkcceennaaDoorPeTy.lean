import Derived.Test.YtkbclhkcceennaaDoorPeZ
import Derived.Test.YtkbclhkcceennaaDoorChecked
import Derived.KernelRfl
set_option linter.unusedVariables false
/-! Facts on the types that the code names. -/
namespace Go.Proofs.YtkbclhkcceennaaDoor.ty
open Go Go.PE
open Go.AE hiding PM
theorem pBuild_struct {P : Program} {t : TypeId} {z : Value} {fs : Array Field} {pl : Array (Nat × Nat)} (hz : zeroT P t = some z) (hu : P.underlying t = some (.struct fs)) (hp : placesT P fs = some pl) (ps : List (Nat × PV)) : pBuild P t ps = (pFill (pl[·]?) (vcells z.cells.toList) ps).map .agg := by
  unfold pBuild; simp only [hz, hu, Option.bind_some, hp]
theorem pBuild_array {P : Program} {t e : TypeId} {z : Value} {n sz : Nat} (hz : zeroT P t = some z) (hu : P.underlying t = some (.array n e)) (hp : sizeT P e = some sz) (ps : List (Nat × PV)) : pBuild P t ps = (pFill (fun i => some (i * sz, sz)) (vcells z.cells.toList) ps).map .agg := by
  unfold pBuild; simp only [hz, hu, Option.bind_some, hp]
theorem ap22_22 : appT Tryd.prog 22 22 = some (5, 1, 1) := by kernel_rfl
theorem pa22_22 : ∀ (x y : PV) (σ : PM), pAppend Tryd.prog 22 22 x y σ = pAppN 5 1 1 x y σ := fun x y σ => pAppend_of ap22_22 x y σ
theorem ki22 : kindT Tryd.prog 22 = some .sl := by kernel_rfl
theorem ki30 : kindT Tryd.prog 30 = some .ptr := by kernel_rfl
theorem bu53 : ∀ ps, pBuild Tryd.prog 53 ps = (pFill ((#[(0, 1), (1, 1), (2, 1)] : Array (Nat × Nat))[·]?) (vcells [.slice none 0 0, .int .i64 0, .bool false]) ps).map .agg := fun ps => pBuild_struct (z := .agg #[.slice none 0 0, .int .i64 0, .bool false]) (by kernel_rfl) Tryd.underlying53 (by kernel_rfl) ps
theorem sl22 : sliceT Tryd.prog 22 = some (5, 1) := by kernel_rfl
theorem zs5 : (zeroT Tryd.prog 5).isSome = true := by kernel_rfl
theorem pb22 : ∀ (len : Nat) (ps : List (Nat × PV)) (σ : PM), pBuildSlice Tryd.prog 22 len ps σ = pBuildSliceN 5 1 len ps σ := fun len ps σ => pBuildSlice_of sl22 zs5 len ps σ
theorem sl43 : sliceT Tryd.prog 43 = some (22, 1) := by kernel_rfl
theorem zs22 : (zeroT Tryd.prog 22).isSome = true := by kernel_rfl
theorem pb43 : ∀ (len : Nat) (ps : List (Nat × PV)) (σ : PM), pBuildSlice Tryd.prog 43 len ps σ = pBuildSliceN 22 1 len ps σ := fun len ps σ => pBuildSlice_of sl43 zs22 len ps σ
theorem cv2_33 : convT Tryd.prog 2 33 = some (.int .u64) := by kernel_rfl
theorem co2_33 : ∀ (x : PV) (σ : PM), pConv Tryd.prog 2 33 x σ = pConvI .u64 x σ := fun x σ => pConv_i cv2_33 x σ
theorem cv22_9 : convT Tryd.prog 22 9 = some .toStr := by kernel_rfl
theorem co22_9 : ∀ (x : PV) (σ : PM), pConv Tryd.prog 22 9 x σ = pConvS x σ := fun x σ => pConv_s cv22_9 x σ
theorem cv3_27 : convT Tryd.prog 3 27 = some (.int .u64) := by kernel_rfl
theorem co3_27 : ∀ (x : PV) (σ : PM), pConv Tryd.prog 3 27 x σ = pConvI .u64 x σ := fun x σ => pConv_i cv3_27 x σ
theorem cv3_33 : convT Tryd.prog 3 33 = some (.int .u64) := by kernel_rfl
theorem co3_33 : ∀ (x : PV) (σ : PM), pConv Tryd.prog 3 33 x σ = pConvI .u64 x σ := fun x σ => pConv_i cv3_33 x σ
theorem cv3_5 : convT Tryd.prog 3 5 = some (.int .u8) := by kernel_rfl
theorem co3_5 : ∀ (x : PV) (σ : PM), pConv Tryd.prog 3 5 x σ = pConvI .u8 x σ := fun x σ => pConv_i cv3_5 x σ
theorem cv33_2 : convT Tryd.prog 33 2 = some (.int .i64) := by kernel_rfl
theorem co33_2 : ∀ (x : PV) (σ : PM), pConv Tryd.prog 33 2 x σ = pConvI .i64 x σ := fun x σ => pConv_i cv33_2 x σ
theorem cv33_3 : convT Tryd.prog 33 3 = some (.int .i64) := by kernel_rfl
theorem co33_3 : ∀ (x : PV) (σ : PM), pConv Tryd.prog 33 3 x σ = pConvI .i64 x σ := fun x σ => pConv_i cv33_3 x σ
theorem cv33_5 : convT Tryd.prog 33 5 = some (.int .u8) := by kernel_rfl
theorem co33_5 : ∀ (x : PV) (σ : PM), pConv Tryd.prog 33 5 x σ = pConvI .u8 x σ := fun x σ => pConv_i cv33_5 x σ
theorem cv5_23 : convT Tryd.prog 5 23 = some (.int .u16) := by kernel_rfl
theorem co5_23 : ∀ (x : PV) (σ : PM), pConv Tryd.prog 5 23 x σ = pConvI .u16 x σ := fun x σ => pConv_i cv5_23 x σ
theorem cv5_3 : convT Tryd.prog 5 3 = some (.int .i64) := by kernel_rfl
theorem co5_3 : ∀ (x : PV) (σ : PM), pConv Tryd.prog 5 3 x σ = pConvI .i64 x σ := fun x σ => pConv_i cv5_3 x σ
theorem cv5_33 : convT Tryd.prog 5 33 = some (.int .u64) := by kernel_rfl
theorem co5_33 : ∀ (x : PV) (σ : PM), pConv Tryd.prog 5 33 x σ = pConvI .u64 x σ := fun x σ => pConv_i cv5_33 x σ
theorem fo53_0 : fieldOf Tryd.prog 53 0 = some (0, 22) := by kernel_rfl
theorem sz22 : sizeT Tryd.prog 22 = some 1 := by kernel_rfl
theorem fa53_0 : ∀ (x : PV), pFaddr Tryd.prog 53 x 0 = addOff x 0 := fun x => pFaddr_of fo53_0 sz22 rfl x
theorem fo53_1 : fieldOf Tryd.prog 53 1 = some (1, 36) := by kernel_rfl
theorem sz36 : sizeT Tryd.prog 36 = some 1 := by kernel_rfl
theorem fa53_1 : ∀ (x : PV), pFaddr Tryd.prog 53 x 1 = addOff x 1 := fun x => pFaddr_of fo53_1 sz36 rfl x
theorem fo53_2 : fieldOf Tryd.prog 53 2 = some (2, 4) := by kernel_rfl
theorem sz4 : sizeT Tryd.prog 4 = some 1 := by kernel_rfl
theorem fa53_2 : ∀ (x : PV), pFaddr Tryd.prog 53 x 2 = addOff x 2 := fun x => pFaddr_of fo53_2 sz4 rfl x
theorem ia22 : ∀ (o : List (Nat × PO)) (x ix : PV), pIaddr Tryd.prog o 22 x ix = (pIdx ix).bind fun i => idxS o 1 x i := fun o x ix => pIaddr_sl sl22 o x ix
theorem sl41 : sliceT Tryd.prog 41 = some (33, 1) := by kernel_rfl
theorem ia41 : ∀ (o : List (Nat × PO)) (x ix : PV), pIaddr Tryd.prog o 41 x ix = (pIdx ix).bind fun i => idxS o 1 x i := fun o x ix => pIaddr_sl sl41 o x ix
theorem sl42 : sliceT Tryd.prog 42 = some (2, 1) := by kernel_rfl
theorem ia42 : ∀ (o : List (Nat × PO)) (x ix : PV), pIaddr Tryd.prog o 42 x ix = (pIdx ix).bind fun i => idxS o 1 x i := fun o x ix => pIaddr_sl sl42 o x ix
theorem ia43 : ∀ (o : List (Nat × PO)) (x ix : PV), pIaddr Tryd.prog o 43 x ix = (pIdx ix).bind fun i => idxS o 1 x i := fun o x ix => pIaddr_sl sl43 o x ix
theorem sz23 : sizeT Tryd.prog 23 = some 1 := by kernel_rfl
theorem ia51 : ∀ (o : List (Nat × PO)) (x ix : PV), pIaddr Tryd.prog o 51 x ix = (pIdx ix).bind fun i => idxA 16 1 x i := fun o x ix => pIaddr_ar Tryd.underlying51 sz23 o x ix
theorem ln22 : ∀ (x : PV), pLen Tryd.prog 22 x = pLenS x := fun x => pLen_sl (by kernel_rfl) x
theorem le22 : lenT Tryd.prog 22 = some .sl := by kernel_rfl
theorem ln41 : ∀ (x : PV), pLen Tryd.prog 41 x = pLenS x := fun x => pLen_sl (by kernel_rfl) x
theorem le41 : lenT Tryd.prog 41 = some .sl := by kernel_rfl
theorem ln42 : ∀ (x : PV), pLen Tryd.prog 42 x = pLenS x := fun x => pLen_sl (by kernel_rfl) x
theorem le42 : lenT Tryd.prog 42 = some .sl := by kernel_rfl
theorem ln43 : ∀ (x : PV), pLen Tryd.prog 43 x = pLenS x := fun x => pLen_sl (by kernel_rfl) x
theorem le43 : lenT Tryd.prog 43 = some .sl := by kernel_rfl
theorem ag2 : isAggT Tryd.prog 2 = some false := by kernel_rfl
theorem sz2 : sizeT Tryd.prog 2 = some 1 := by kernel_rfl
theorem rd2 : ∀ (c : List PV) (off : Nat), pRead Tryd.prog 2 c off = c[off]? := fun c off => pRead_one ag2 c off
theorem ag22 : isAggT Tryd.prog 22 = some false := by kernel_rfl
theorem rd22 : ∀ (c : List PV) (off : Nat), pRead Tryd.prog 22 c off = c[off]? := fun c off => pRead_one ag22 c off
theorem ag23 : isAggT Tryd.prog 23 = some false := by kernel_rfl
theorem rd23 : ∀ (c : List PV) (off : Nat), pRead Tryd.prog 23 c off = c[off]? := fun c off => pRead_one ag23 c off
theorem ag33 : isAggT Tryd.prog 33 = some false := by kernel_rfl
theorem sz33 : sizeT Tryd.prog 33 = some 1 := by kernel_rfl
theorem rd33 : ∀ (c : List PV) (off : Nat), pRead Tryd.prog 33 c off = c[off]? := fun c off => pRead_one ag33 c off
theorem ag36 : isAggT Tryd.prog 36 = some false := by kernel_rfl
theorem rd36 : ∀ (c : List PV) (off : Nat), pRead Tryd.prog 36 c off = c[off]? := fun c off => pRead_one ag36 c off
theorem ag4 : isAggT Tryd.prog 4 = some false := by kernel_rfl
theorem rd4 : ∀ (c : List PV) (off : Nat), pRead Tryd.prog 4 c off = c[off]? := fun c off => pRead_one ag4 c off
theorem ag5 : isAggT Tryd.prog 5 = some false := by kernel_rfl
theorem sz5 : sizeT Tryd.prog 5 = some 1 := by kernel_rfl
theorem rd5 : ∀ (c : List PV) (off : Nat), pRead Tryd.prog 5 c off = c[off]? := fun c off => pRead_one ag5 c off
theorem st22 : ∀ (o : List (Nat × PO)) (p x : PV), pStore Tryd.prog o 22 p x = pStoreN o 1 p x := fun o p x => pStore_of sz22 o p x
theorem st36 : ∀ (o : List (Nat × PO)) (p x : PV), pStore Tryd.prog o 36 p x = pStoreN o 1 p x := fun o p x => pStore_of sz36 o p x
theorem st5 : ∀ (o : List (Nat × PO)) (p x : PV), pStore Tryd.prog o 5 p x = pStoreN o 1 p x := fun o p x => pStore_of sz5 o p x
end Go.Proofs.YtkbclhkcceennaaDoor.ty
