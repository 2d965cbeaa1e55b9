/- Proved: for every number and every texts the program's Put, Get and Sectors of frames tell what the document's own answer tells (furlonglaw9.Frames); no conditions. -/
import Derived.Test.YtajgngijmmkemaaTells
namespace Go.Proofs.Ytajgngijmmkemaa.Pure
open Go.RowKit Go.Proofs.Ytajgngijmmkemaa.PFrames Go.Proofs.YtajgngijmmkemaaW.PrintWords Go.Proofs.YtajgngijmmkemaaW.PrintLast
open Tells

theorem Frames : furlonglaw9_Frames.Pure := by
  intro lsn d s _ _ _
  refine ⟨100000, ?_⟩
  unfold furlonglaw9_Frames.f
  rw [put_tells lsn d _ (by omega), ref_put_tells lsn d _ (by omega), get_tells s lsn _ (by omega), ref_get_tells s lsn _ (by omega), awakes _ (by omega)]
  simp only [Option.bind_some, if_true, furlonglaw0_Num.f, sectors_tells, ref_sectors_tells, beq_self_eq_true]

end Go.Proofs.Ytajgngijmmkemaa.Pure
