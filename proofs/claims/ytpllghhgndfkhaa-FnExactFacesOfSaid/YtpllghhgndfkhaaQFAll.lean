/- All contracts of this claim. -/
import Derived.Test.YtpllghhgndfkhaaQF0
import Derived.Test.YtpllghhgndfkhaaQF1
import Derived.Test.YtpllghhgndfkhaaQF2
import Derived.Test.YtpllghhgndfkhaaQF3
