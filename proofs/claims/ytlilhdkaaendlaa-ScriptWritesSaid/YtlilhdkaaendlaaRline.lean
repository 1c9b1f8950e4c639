/- The line of an event: the document's, all kinds. No statement is proved here. -/
import Derived.Test.YtlilhdkaaendlaaRlineA
import Derived.Test.YtlilhdkaaendlaaRlineB
import Derived.Test.YtlilhdkaaendlaaRlineC
import Derived.Test.YtlilhdkaaendlaaRlineD
namespace Go.Proofs.Ytlilhdkaaendlaa
open Go.RowKit

theorem rtext_c (e : Ev) (he : e.In) (dv : Value) (w : World) (hd : Sees w dv (bys e.data)) : Calls Try.prog 42 #[evV e dv] w fun x w' => x = .returned (.string ⟨(textM e).toArray⟩) ∧ Only No w w' := by
  by_cases k1 : e.kind = 1
  · by_cases o1 : e.okind = 1
    · exact rtext11_c e he k1 o1 dv w hd
    by_cases o2 : e.okind = 2
    · exact rtext12_c e he k1 o2 dv w hd
    by_cases o3 : e.okind = 3
    · exact rtext13_c e he k1 o3 dv w hd
    by_cases o4 : e.okind = 4
    · exact rtext14_c e he k1 o4 dv w hd
    by_cases o5 : e.okind = 5
    · exact rtext15_c e he k1 o5 dv w hd
    exact rtext10_c e he k1 (by omega) dv w hd
  by_cases k2 : e.kind = 2
  · exact rtext2_c e he k2 dv w hd
  by_cases k3 : e.kind = 3
  · by_cases n1 : e.n = 1
    · exact rtext31_c e he k3 n1 dv w hd
    by_cases n2 : e.n = 2
    · exact rtext32_c e he k3 n2 dv w hd
    by_cases n3 : e.n = 3
    · exact rtext33_c e he k3 n3 dv w hd
    by_cases lo : e.n < 1
    · exact rtext30_c e he k3 lo dv w hd
    exact rtext34_c e he k3 (by omega) dv w hd
  by_cases k4 : e.kind = 4
  · exact rtext4_c e he k4 dv w hd
  by_cases k5 : e.kind = 5
  · exact rtext5_c e he k5 dv w hd
  by_cases k6 : e.kind = 6
  · exact rtext6_c e he k6 dv w hd
  by_cases k7 : e.kind = 7
  · exact rtext7_c e he k7 dv w hd
  by_cases k8 : e.kind = 8
  · by_cases d1 : e.data.length = 1
    · exact rtext8_c e he k8 d1 dv w hd
    exact rtext80_c e he k8 d1 dv w hd
  by_cases k9 : e.kind = 9
  · exact rtext9_c e he k9 dv w hd
  exact rtext0_c e he (by omega) dv w hd
end Go.Proofs.Ytlilhdkaaendlaa
