/- The law on edges, and modules handed in. -/
import Derived.Test.YtollibkfagjnaaaFrGo
import Derived.Test.YtollibkfagjnaaaFrEw
