/- All contracts of this claim. -/
import Derived.Test.YtpllghhgndfkhaaQG0
import Derived.Test.YtpllghhgndfkhaaQG1
import Derived.Test.YtpllghhgndfkhaaQG2
import Derived.Test.YtpllghhgndfkhaaQG3
import Derived.Test.YtpllghhgndfkhaaQG4
