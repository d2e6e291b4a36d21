/- SHA-256: the 64 words of a block, of the document. -/
import Derived.Test.YtampopnjbccdiaaDoorH03
namespace Go.Eng
open Go Go.Proofs
