/- Contracts for the row OctsAsk. -/
import Derived.Test.YtcjnpmaljfkpgaaDoorS
import Derived.Test.YtcjnpmaljfkpgaaDoorOctsI
namespace Go.Proofs.YtcjnpmaljfkpgaaDoor
open Go Abs
theorem refHasOk : HasOk Tryd.prog gam 26 .i64 := refHas_ok b26
theorem bytesOk : BytesOk Tryd.prog gam 16 := bytes_ok b16 allOk b57 tzOk
theorem refBytesOk : BytesOk Tryd.prog gam 17 := refBytes_ok b17 refHasOk
end Go.Proofs.YtcjnpmaljfkpgaaDoor
