/- Results and Held, their rows taken as data that stay. -/
import Derived.Test.YtohnakoineakdaaGreatQSpecF
namespace Go.Proofs.YtohnakoineakdaaGreat
open Go Go.Ev
set_option maxRecDepth 100000
noncomputable def c14w:Con:=⟨[(.val true (.pair (.seq 58 (.pair (.int .i64) (.pair (.int .i64) (.pair (.int .i64) (.pair (.int .i64) (.pair (.seq 3 (.int .i64)) (.int .i64))))))) (.pair (.int .i64) (.pair (.int .i64) (.pair (.int .i64) (.int .i64)))))),(.val false (.seq 60 (.pair (.int .i64) (.pair (.int .i64) (.pair (.int .i64) (.int .i64)))))),(.val false (.int .i64)),(.val false (.int .i64))],[(false,.val (.seq 53 (.pair (.int .i64) (.pair (.int .i64) (.pair (.pair (.int .i64) (.int .i64)) (.pair (.int .i64) (.pair .bool (.seq 3 (.int .i64))))))))),(false,.val (.int .i64))],c14.F⟩
theorem c14w_F (n:Nat) (a0:List (Int×Int×Int×Int×List Int×Int)×Int×Int×Int×Int) (a1:List (Int×Int×Int×Int)) (a2:Int) (a3:Int):c14w.F n (a0,a1,a2,a3,())=spec_Results n a0 a1 a2 a3:=rfl
theorem c14w_ok:ConOK Tryz.prog 14 c14w:=ConOK.val2 (F:=c14.F) rfl c14_ok fun n x y h=>⟨y,h,rfl⟩
noncomputable def c16w:Con:=⟨[(.val true (.pair (.seq 58 (.pair (.int .i64) (.pair (.int .i64) (.pair (.int .i64) (.pair (.int .i64) (.pair (.seq 3 (.int .i64)) (.int .i64))))))) (.pair (.int .i64) (.pair (.int .i64) (.pair (.int .i64) (.int .i64)))))),(.val false (.seq 60 (.pair (.int .i64) (.pair (.int .i64) (.pair (.int .i64) (.int .i64)))))),(.val false (.int .i64))],[(false,.val (.seq 60 (.pair (.int .i64) (.pair (.int .i64) (.pair (.int .i64) (.int .i64)))))),(false,.val (.int .i64))],c16.F⟩
theorem c16w_F (n:Nat) (a0:List (Int×Int×Int×Int×List Int×Int)×Int×Int×Int×Int) (a1:List (Int×Int×Int×Int)) (a2:Int):c16w.F n (a0,a1,a2,())=spec_Held n a0 a1 a2:=rfl
theorem c16w_ok:ConOK Tryz.prog 16 c16w:=ConOK.val2 (F:=c16.F) rfl c16_ok fun n x y h=>⟨y,h,rfl⟩
end Go.Proofs.YtohnakoineakdaaGreat
